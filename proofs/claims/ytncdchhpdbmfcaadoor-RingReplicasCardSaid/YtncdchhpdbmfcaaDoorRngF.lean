/- Contracts of a ring's Span; of the reference's Start, Range; of the law's great. -/
import Derived.Test.YtncdchhpdbmfcaaDoorRngE
namespace Go.Proofs.YtncdchhpdbmfcaaDoor
open Go.RowKit Go.Sort
theorem ne_T (a b : ByteArray) : (!(a.toList == b.toList)) = neT a b := by
  unfold neT
  by_cases h : a.toList = b.toList
  · have h1 := (cmpT_zero a b).2 h
    rw [h1, h]
    simp
  · have h1 : cmpT a b ≠ 0 := fun h9 => h ((cmpT_zero a b).1 h9)
    simp [h1, h]
attribute [local go_sem] lt_T lo_T not_ltT not_leT ne_T

theorem neT_e (s : ByteArray) (h : s.toList ≠ []) : neT s ⟨#[]⟩ = true := by
  rw [← ne_T, e_toList]
  cases hs : s.toList with
  | nil => exact absurd hs h
  | cons a l => rfl
theorem neT_ee : neT ⟨#[]⟩ ⟨#[]⟩ = false := by
  rw [← ne_T]
  simp
theorem rk_lt (key : ByteArray) : ∀ (K : List ByteArray) (j : Nat) (hj : j < K.length), j < rk K key → leT K[j] key = true
  | s :: K, j, hj, h => by
    unfold rk at h
    rw [List.takeWhile_cons] at h
    by_cases hs : leT s key = true
    · rw [if_pos hs] at h
      cases j with
      | zero => exact hs
      | succ j => exact rk_lt key K j (by simpa using hj) (by unfold rk; simpa using h)
    · rw [if_neg hs] at h
      simp at h
theorem rk_ge (key : ByteArray) : ∀ (K : List ByteArray), UpT K → ∀ (j : Nat) (hj : j < K.length), rk K key ≤ j → leT K[j] key = false
  | s :: K, hU, j, hj, h => by
    unfold rk at h
    rw [List.takeWhile_cons] at h
    by_cases hs : leT s key = true
    · rw [if_pos hs] at h
      cases j with
      | zero => simp at h
      | succ j => exact rk_ge key K (List.pairwise_cons.1 hU).2 j (by simpa using hj) (by unfold rk; simpa using h)
    · cases j with
      | zero => simpa using hs
      | succ j =>
        have hjK : j < K.length := by simpa using hj
        have h1 := (List.pairwise_cons.1 hU).1 _ (List.getElem_mem hjK)
        have hs2 : leT s key = false := by simpa using hs
        rw [← not_ltT] at hs2
        have h3 : ltT key s = true := by simpa using hs2
        have h4 : ltT key K[j] = true := (ltT_iff _ _).2 (Cmp.lt_le cmp_T ((ltT_iff _ _).1 h3) (Int.le_of_lt ((ltT_iff _ _).1 h1)))
        have h5 : leT K[j] key = !ltT key K[j] := (not_ltT key K[j]).symm
        simp only [List.getElem_cons_succ]
        rw [h5, h4]
        rfl

/-- A range's first key. -/
def startT (K : List ByteArray) (i : Int) : ByteArray := if 1 ≤ i ∧ i ≤ K.length then K[(i - 1).toNat]?.getD ⟨#[]⟩ else ⟨#[]⟩
set_option maxRecDepth 100000 in
theorem ref20_Start (A : Option Addr) (n c : Nat) (K : List ByteArray) (i : Int) (w : World) (hr : Reads w w.heap.size 1 A n (K.map Value.string)) (hn : n ≤ 9223372036854775807) (h1 : -9223372036854775808 ≤ i) (h2 : i ≤ 9223372036854775807) :
    Calls Tryd.prog 22 #[.slice A n c, .int .i64 i] w fun e w' => e = .returned (.string (startT K i)) ∧ w = w' := by
  have hN : K.length = n := by have := hr.1; simpa using this
  by_cases hi : i < 1
  · have hv : startT K i = ⟨#[]⟩ := by unfold startT; rw [if_neg (by omega)]
    rw [hv]
    clear hv hr
    go_enter Tryd.func22, Tryd.ntmps22
    go_wp2_with fail
    go_ret
    exact ⟨rfl, rfl⟩
  · by_cases hi2 : i > n
    · have hv : startT K i = ⟨#[]⟩ := by unfold startT; rw [if_neg (by omega)]
      rw [hv]
      clear hv hr
      go_enter Tryd.func22, Tryd.ntmps22
      go_wp2_with fail
      go_ret
      exact ⟨rfl, rfl⟩
    · obtain ⟨m, hd1⟩ : ∃ m : Nat, i - 1 = (m : Int) := ⟨(i - 1).toNat, by omega⟩
      have hmK : m < K.length := by omega
      obtain ⟨b, off, rfl, hb, hall⟩ := Reads.form hr (by omega)
      obtain ⟨t, ht⟩ : ∃ t, K[m]'hmK = t := ⟨_, rfl⟩
      have hget : K[m]? = some t := by rw [List.getElem?_eq_getElem hmK, ht]
      have e1 := hall m (.string t) (by rw [List.getElem?_map, hget]; rfl)
      have hv : startT K i = t := by
        unfold startT
        rw [if_pos (by omega), hd1, Int.toNat_natCast, hget]
        rfl
      rw [hv]
      clear hv hall hr hget ht
      go_enter Tryd.func22, Tryd.ntmps22
      go_wp2_with fail
      go_ret
      exact ⟨rfl, rfl⟩

set_option maxRecDepth 100000 in
theorem ref20_Range (A : Option Addr) (n c : Nat) (K : List ByteArray) (key : ByteArray) (w : World) (hr : Reads w w.heap.size 1 A n (K.map Value.string)) (hn : n ≤ 1000000) (hU : UpT K) :
    Calls Tryd.prog 20 #[.slice A n c, .string key] w fun e w' => e = .returned (.int .i64 (rk K key : Nat)) ∧ w = w' := by
  have hN : K.length = n := by have := hr.1; simpa using this
  have HLT := Lib.hid (rk_lt key K)
  have HGE := Lib.hid (rk_ge key K hU)
  have hle := rk_le K key
  rw [hN] at hle
  have HR := Lib.hid hr
  have HN := Lib.hid hN
  obtain ⟨p, hp⟩ : ∃ p, rk K key = p := ⟨_, rfl⟩
  rw [hp] at HLT HGE hle ⊢
  clear hr hN hp hU
  go_enter Tryd.func20, Tryd.ntmps20
  go_wp2_with fail
  go_loop [5, 6] (fun v5 v6 => ∃ i r : Nat, v6 = .int .i64 i ∧ v5 = .int .i64 r ∧ i ≤ n ∧ r = min i p) (fun _ v6 => n - (intOf v6).toNat)
  case atStart => exact ⟨0, 0, rfl, rfl, Nat.zero_le _, by simp⟩
  case round =>
    obtain ⟨i, r, rfl, rfl, hi, hri⟩ := hrel
    have HRI := Lib.hid hri
    clear hri
    by_cases hin : i < n
    · have hil : i < K.length := by have := HN.out; omega
      obtain ⟨b, off, rfl, hb, hc1⟩ := Reads.form HR.out (by omega)
      obtain ⟨x, hx⟩ : ∃ x, K[i]'hil = x := ⟨_, rfl⟩
      have q0 := hc1 i (.string x) (by rw [List.getElem?_map, List.getElem?_eq_getElem hil, hx]; rfl)
      have H3 := HLT.out i hil
      have H4 := HGE.out i hil
      rw [hx] at H3 H4
      clear hc1 hx
      by_cases hip : i < p
      · have h3 := H3 hip
        clear H3 H4
        go_wp2_with fail
        go_round
        case rel => exact ⟨i + 1, i + 1, by go_num, by go_num, hin, by omega⟩
        case measure => simp [intOf]; omega
      · have h3 := H4 (by omega)
        clear H3 H4
        go_wp2_with fail
        go_round
        case rel => exact ⟨i + 1, r, by go_num, rfl, hin, by have := HRI.out; omega⟩
        case measure => simp [intOf]; omega
    · have hrp : r = p := by have := HRI.out; omega
      go_wp2_with fail
      go_ret
      subst hrp
      exact ⟨rfl, rfl⟩

def GreatE (n : Nat) (K : List ByteArray) (w : World) (e : Ending) (w' : World) : Prop := ∃ q : Bool, e = .returned (.bool q) ∧ (q = false → n ≤ 10 ∧ ∀ s ∈ K, s.size ≤ 200) ∧ w = w'
set_option maxRecDepth 100000 in
theorem law20_great (A : Option Addr) (n c : Nat) (K : List ByteArray) (w : World) (hr : Reads w w.heap.size 1 A n (K.map Value.string)) (hn : n ≤ 9223372036854775807) (hz : ∀ s ∈ K, s.size ≤ maxLen) :
    Calls Tryd.prog 6 #[.slice A n c] w (GreatE n K w) := by
  have hN : K.length = n := by have := hr.1; simpa using this
  have HR := Lib.hid hr
  have HN := Lib.hid hN
  have HZ := Lib.hid hz
  clear hr hN hz
  by_cases hn10 : n ≤ 10
  · go_enter Tryd.func6, Tryd.ntmps6
    go_wp2_with fail
    go_loop [3] (fun v3 => ∃ i : Nat, v3 = .int .i64 i ∧ i ≤ n ∧ ∀ s ∈ K.take i, s.size ≤ 200) (fun v3 => n - (intOf v3).toNat)
    case atStart => exact ⟨0, rfl, Nat.zero_le _, by simp⟩
    case round =>
      obtain ⟨i, rfl, hi, hs⟩ := hrel
      have HS := Lib.hid hs
      clear hs
      by_cases hin : i < n
      · have hil : i < K.length := by have := HN.out; omega
        obtain ⟨b, off, rfl, hb, hc1⟩ := Reads.form HR.out (by omega)
        obtain ⟨x, hx⟩ : ∃ x, K[i]'hil = x := ⟨_, rfl⟩
        have q0 := hc1 i (.string x) (by rw [List.getElem?_map, List.getElem?_eq_getElem hil, hx]; rfl)
        have hxz : x.size ≤ maxLen := HZ.out x (by rw [← hx]; exact List.getElem_mem hil)
        have hxm : x.size ≤ 9223372036854775807 := by unfold maxLen at hxz; omega
        have HX := Lib.hid hx
        clear hc1 hx hxz
        by_cases hx2 : x.size ≤ 200
        · go_wp2_with fail
          go_round
          case rel => exact ⟨i + 1, by go_num, hin, fun s hs => by
            rw [List.take_succ_eq_append_getElem hil, HX.out] at hs
            rcases List.mem_append.1 hs with hs | hs
            · exact HS.out s hs
            · rw [List.mem_singleton.1 hs]; exact hx2⟩
          case measure => simp [intOf]; omega
        · have hx3 : x.size > 200 := by omega
          go_wp2_with fail
          go_ret
          exact ⟨true, rfl, (fun h => by cases h), rfl⟩
      · have hF : ∀ s ∈ K, s.size ≤ 200 := by
          have h := HS.out
          rwa [List.take_of_length_le (by have := HN.out; omega)] at h
        have HF := Lib.hid hF
        clear hF
        go_wp2_with fail
        go_ret
        exact ⟨false, rfl, fun _ => ⟨hn10, HF.out⟩, rfl⟩
  · have hn2 : n > 10 := by omega
    go_enter Tryd.func6, Tryd.ntmps6
    go_wp2_with fail
    go_ret
    exact ⟨true, rfl, (fun h => by cases h), rfl⟩


def nextB (K : List ByteArray) (r : Nat) (t : ByteArray) : Bool := match K[r]? with | some s => ltT s t | none => false
/-- The range in which all keys between two texts are, or why there is none. -/
def spanV (K : List ByteArray) (f t : ByteArray) : Int × Int :=
  if keyB f = false ∨ keyB t = false ∨ ltT f t = false then (0, 201) else if nextB K (rk K f) t = true then (0, 202) else ((rk K f : Nat), 0)

set_option maxRecDepth 100000 in
set_option maxHeartbeats 1000000 in
theorem ring_Span (g : Nat) (K : List ByteArray) (nodes copies : Int) (P : List Pl) (f t : ByteArray) (w : World) (hT : Tabs w) (hr : RingAt w g (⟨#[]⟩ :: K) nodes copies P) (hU : UpT K) (hne : ∀ s ∈ K, s.toList ≠ []) (hl : K.length ≤ 90) (hf : f.size ≤ maxLen) (ht : t.size ≤ maxLen) :
    Calls Tryd.prog 23 #[.pointer (some ⟨g, 0, none⟩), .string f, .string t] w fun e w' => e = .returned (.tuple #[.int .i64 (spanV K f t).1, .int .i64 (spanV K f t).2]) ∧ Below w.heap.size w w' := by
  have hle := rk_le K f
  have HA := Lib.hid (runes_Key f hf w hT)
  have HB := Lib.hid (fun w1 (b : Below w.heap.size w w1) => runes_Key t ht w1 (hT.below b))
  have HRg := Lib.hid (fun w1 (b : Below w.heap.size w w1) => ring_Range g K nodes copies P f w1 (hr.below b) hU hne (by omega))
  have HBd := Lib.hid (fun w1 (b : Below w.heap.size w w1) => ring_Bounds g (⟨#[]⟩ :: K) nodes copies P ((rk K f : Nat) : Int) w1 (hr.below b) (by simp; omega) (by omega) (by omega))
  obtain ⟨ka, hka⟩ : ∃ k, keyB f = k := ⟨_, rfl⟩
  obtain ⟨kb, hkb⟩ : ∃ k, keyB t = k := ⟨_, rfl⟩
  rw [hka] at HA
  rw [hkb] at HB
  cases ka with
  | false =>
    have HV : Hid (spanV K f t = (0, 201)) := Lib.hid (by unfold spanV; rw [if_pos (.inl hka)])
    rw [HV.out]
    clear hr hU hne hka hkb HB HRg HBd hle
    go_enter Tryd.func23, Tryd.ntmps23
    go_wp2_with fail
    refine HA.out.mono ?_
    rintro e w1 ⟨rfl, b1⟩
    go_wp2_with fail
    go_ret2
    exact ⟨rfl, b1⟩
  | true =>
    cases kb with
    | false =>
      have HV : Hid (spanV K f t = (0, 201)) := Lib.hid (by unfold spanV; rw [if_pos (.inr (.inl hkb))])
      rw [HV.out]
      clear hr hU hne hka hkb HRg HBd hle
      go_enter Tryd.func23, Tryd.ntmps23
      go_wp2_with fail
      refine HA.out.mono ?_
      rintro e w1 ⟨rfl, b1⟩
      go_wp2_with fail
      refine (HB.out w1 b1).mono ?_
      rintro e w2 ⟨rfl, b2⟩
      go_wp2_with fail
      go_ret2
      exact ⟨rfl, b1.trans (b2.mono b1.size)⟩
    | true =>
      cases hq : ltT f t with
      | false =>
        have hq2 : leT t f = true := by rw [← not_ltT, hq]; rfl
        have HV : Hid (spanV K f t = (0, 201)) := Lib.hid (by unfold spanV; rw [if_pos (.inr (.inr hq))])
        rw [HV.out]
        clear hr hU hne hka hkb HRg HBd hle
        go_enter Tryd.func23, Tryd.ntmps23
        go_wp2_with fail
        refine HA.out.mono ?_
        rintro e w1 ⟨rfl, b1⟩
        go_wp2_with fail
        refine (HB.out w1 b1).mono ?_
        rintro e w2 ⟨rfl, b2⟩
        go_wp2_with fail
        go_ret2
        exact ⟨rfl, b1.trans (b2.mono b1.size)⟩
      | true =>
        have hq2 : leT t f = false := by rw [← not_ltT, hq]; rfl
        obtain ⟨x0, hx0⟩ : ∃ x, (((⟨#[]⟩ : ByteArray) :: K)[rk K f]?).getD ⟨#[]⟩ = x := ⟨_, rfl⟩
        obtain ⟨x, hx⟩ : ∃ x, (K[rk K f]?).getD ⟨#[]⟩ = x := ⟨_, rfl⟩
        have hv : bndV (⟨#[]⟩ :: K) ((rk K f : Nat) : Int) = .tuple #[.string x0, .string x, .bool true] := by
          unfold bndV
          rw [if_neg (by simp only [List.length_cons]; omega), Int.toNat_natCast, hx0, List.getElem?_cons_succ, hx]
        rw [hv] at HBd
        have hV : spanV K f t = if nextB K (rk K f) t = true then (0, 202) else (((rk K f : Nat) : Int), 0) := by
          unfold spanV
          rw [if_neg (by rw [hka, hkb, hq]; simp)]
        have hX : ((x.toList = [] ∧ x.toList.isEmpty = true) ∧ nextB K (rk K f) t = false) ∨ ((¬ x.toList = [] ∧ x.toList.isEmpty = false) ∧ nextB K (rk K f) t = ltT x t) := by
          unfold nextB
          cases h : K[rk K f]? with
          | none =>
            rw [h] at hx
            refine .inl ⟨?_, rfl⟩
            rw [← hx]
            exact ⟨e_toList, by rw [show ((none : Option ByteArray).getD ⟨#[]⟩) = ⟨#[]⟩ from rfl, e_toList]; rfl⟩
          | some s =>
            rw [h] at hx
            have hx1 : s = x := hx
            subst hx1
            exact .inr ⟨⟨hne s (List.mem_of_getElem? h), by simpa using hne s (List.mem_of_getElem? h)⟩, rfl⟩
        obtain ⟨r, hr0⟩ : ∃ r, rk K f = r := ⟨_, rfl⟩
        rw [hr0] at HRg HBd hV hX hle
        have HV := Lib.hid hV
        clear hV hr hU hne hka hkb hx hx0 hv hr0
        rcases hX with ⟨⟨hn0, hn1⟩, hn2⟩ | ⟨⟨hn0, hn1⟩, hn2⟩
        · rw [HV.out, if_neg (by rw [hn2]; decide)]
          clear HV hn2
          go_enter Tryd.func23, Tryd.ntmps23
          go_wp2_with fail
          refine HA.out.mono ?_
          rintro e w1 ⟨rfl, b1⟩
          go_wp2_with fail
          refine (HB.out w1 b1).mono ?_
          rintro e w2 ⟨rfl, b2⟩
          have b3 := b1.trans (b2.mono b1.size)
          clear b2
          go_wp2_with fail
          refine (HRg.out w2 b3).mono ?_
          rintro e w3 ⟨rfl, rfl⟩
          go_wp2_with fail
          refine (HBd.out w2 b3).mono ?_
          rintro e w4 ⟨rfl, b4⟩
          go_wp2_with fail
          go_ret2
          exact ⟨rfl, b3.trans (b4.mono b3.size)⟩
        · rw [HV.out, hn2]
          clear HV hn2
          cases hq3 : ltT x t with
          | true =>
            rw [if_pos rfl]
            go_enter Tryd.func23, Tryd.ntmps23
            go_wp2_with fail
            refine HA.out.mono ?_
            rintro e w1 ⟨rfl, b1⟩
            go_wp2_with fail
            refine (HB.out w1 b1).mono ?_
            rintro e w2 ⟨rfl, b2⟩
            have b3 := b1.trans (b2.mono b1.size)
            clear b2
            go_wp2_with fail
            refine (HRg.out w2 b3).mono ?_
            rintro e w3 ⟨rfl, rfl⟩
            go_wp2_with fail
            refine (HBd.out w2 b3).mono ?_
            rintro e w4 ⟨rfl, b4⟩
            go_wp2_with fail
            go_ret2
            exact ⟨rfl, b3.trans (b4.mono b3.size)⟩
          | false =>
            rw [if_neg (by decide)]
            go_enter Tryd.func23, Tryd.ntmps23
            go_wp2_with fail
            refine HA.out.mono ?_
            rintro e w1 ⟨rfl, b1⟩
            go_wp2_with fail
            refine (HB.out w1 b1).mono ?_
            rintro e w2 ⟨rfl, b2⟩
            have b3 := b1.trans (b2.mono b1.size)
            clear b2
            go_wp2_with fail
            refine (HRg.out w2 b3).mono ?_
            rintro e w3 ⟨rfl, rfl⟩
            go_wp2_with fail
            refine (HBd.out w2 b3).mono ?_
            rintro e w4 ⟨rfl, b4⟩
            go_wp2_with fail
            go_ret2
            exact ⟨rfl, b3.trans (b4.mono b3.size)⟩
end Go.Proofs.YtncdchhpdbmfcaaDoor
