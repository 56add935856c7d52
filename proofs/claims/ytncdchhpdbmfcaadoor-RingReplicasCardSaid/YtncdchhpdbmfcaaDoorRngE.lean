/- Contracts of slices.BinarySearch over texts, of a ring's Range, Bounds, Span; of the reference's Range, Start. -/
import Derived.Test.YtncdchhpdbmfcaaDoorRngD
namespace Go.Proofs.YtncdchhpdbmfcaaDoor
open Go.RowKit Go.Sort
attribute [local go_sem] lt_T lo_T not_ltT not_leT

theorem Cmp.le_lt {α : Type} {c : α → α → Int} (h : Cmp c) {a b d : α} (h1 : c a b ≤ 0) (h2 : c b d < 0) : c a d < 0 := by
  have h3 := h.tr a b d h1 (by omega)
  rcases Int.lt_or_eq_of_le h3 with h4 | h4
  · exact h4
  · have := h.zero h1 (by omega) h4
    omega
def UpT (K : List ByteArray) : Prop := K.Pairwise fun a b => ltT a b = true
theorem ltT_iff (a b : ByteArray) : ltT a b = true ↔ cmpT a b < 0 := by unfold ltT; simp
theorem leT_iff (a b : ByteArray) : leT a b = true ↔ cmpT a b ≤ 0 := by unfold leT; simp
/-- How many stand ahead of a text, or are it. -/
def rk (K : List ByteArray) (key : ByteArray) : Nat := (K.takeWhile fun s => leT s key).length
def lk (K : List ByteArray) (key : ByteArray) : Nat := (K.takeWhile fun s => ltT s key).length
theorem rk_le (K : List ByteArray) (key : ByteArray) : rk K key ≤ K.length := (List.takeWhile_sublist _).length_le
theorem lk_le (K : List ByteArray) (key : ByteArray) : lk K key ≤ K.length := (List.takeWhile_sublist _).length_le
theorem lk_lt (key : ByteArray) : ∀ (K : List ByteArray) (j : Nat) (hj : j < K.length), j < lk K key → ltT K[j] key = true
  | x :: K, 0, _, h => by
    cases h1 : ltT x key with
    | true => exact h1
    | false => unfold lk at h; simp [h1] at h
  | x :: K, j + 1, hj, h => by
    cases h1 : ltT x key with
    | true =>
      have e : lk (x :: K) key = lk K key + 1 := by unfold lk; simp [h1]
      exact lk_lt key K j (by simpa using hj) (by omega)
    | false => unfold lk at h; simp [h1] at h
theorem lk_ge (key : ByteArray) : ∀ (K : List ByteArray), UpT K → ∀ (j : Nat) (hj : j < K.length), lk K key ≤ j → ltT K[j] key = false
  | x :: K, hK, j, hj, h => by
    cases h1 : ltT x key with
    | true =>
      have e : lk (x :: K) key = lk K key + 1 := by unfold lk; simp [h1]
      cases j with
      | zero => omega
      | succ j => exact lk_ge key K (List.pairwise_cons.1 hK).2 j (by simpa using hj) (by omega)
    | false =>
      cases j with
      | zero => exact h1
      | succ j =>
        have hj' : j < K.length := by simpa using hj
        have h2 := (ltT_iff _ _).1 ((List.pairwise_cons.1 hK).1 K[j] (List.getElem_mem hj'))
        show ltT K[j] key = false
        cases h3 : ltT K[j] key with
        | false => rfl
        | true =>
          have h4 : cmpT x key < 0 := cmp_T.lt_le h2 (by have := (ltT_iff _ _).1 h3; omega)
          rw [(ltT_iff _ _).2 h4] at h1
          cases h1
theorem rk_lk : ∀ (K : List ByteArray) (key : ByteArray), UpT K → rk K key = lk K key + (match K[lk K key]? with | some s => if (s.toList == key.toList) then 1 else 0 | none => 0)
  | [], key, _ => rfl
  | x :: K, key, hK => by
    have ih := rk_lk K key (List.pairwise_cons.1 hK).2
    have h2 := (List.pairwise_cons.1 hK).1
    cases h1 : ltT x key with
    | true =>
      have e1 : lk (x :: K) key = lk K key + 1 := by unfold lk; simp [h1]
      have hle : leT x key = true := by rw [leT_iff]; have := (ltT_iff _ _).1 h1; omega
      have e2 : rk (x :: K) key = rk K key + 1 := by unfold rk; simp [hle]
      rw [e1, e2, ih, List.getElem?_cons_succ]
      omega
    | false =>
      have e1 : lk (x :: K) key = 0 := by unfold lk; simp [h1]
      rw [e1, List.getElem?_cons_zero]
      cases h3 : (x.toList == key.toList) with
      | true =>
        have h4 : cmpT x key = 0 := (cmpT_zero _ _).2 (by simpa using h3)
        have hle : leT x key = true := by rw [leT_iff]; omega
        have e2 : rk (x :: K) key = rk K key + 1 := by unfold rk; simp [hle]
        have e3 : rk K key = 0 := by
          cases K with
          | nil => rfl
          | cons y K =>
            have h5 := (ltT_iff _ _).1 (h2 y (List.mem_cons_self ..))
            have h6 := cmp_T.anti x key
            have h7 := cmp_T.le_lt (by omega : cmpT key x ≤ 0) h5
            have h8 := cmp_T.anti key y
            have : leT y key = false := by
              cases h9 : leT y key with
              | false => rfl
              | true => have := (leT_iff _ _).1 h9; omega
            unfold rk
            simp [this]
        rw [e2, e3]
        simp [h3]
      | false =>
        have hle : leT x key = false := by
          cases h9 : leT x key with
          | false => rfl
          | true =>
            have h4 := (leT_iff _ _).1 h9
            have h5 : ¬ cmpT x key = 0 := fun h => by
              have := (cmpT_zero _ _).1 h
              rw [beq_eq_false_iff_ne] at h3
              exact h3 this
            rw [(ltT_iff _ _).2 (by omega)] at h1
            cases h1
        have e2 : rk (x :: K) key = 0 := by unfold rk; simp [hle]
        rw [e2]
        simp [h3]
def hitT (K : List ByteArray) (key : ByteArray) (p : Nat) : Bool := match K[p]? with | some s => (s.toList == key.toList) | none => false

set_option maxRecDepth 100000 in
theorem cmp_LessS (a b : ByteArray) (w : World) : Calls Tryd.prog 48 #[.string a, .string b] w fun e w' => e = .returned (.bool (ltT a b)) ∧ w = w' := by
  obtain ⟨q, hq⟩ : ∃ q, ltT a b = q := ⟨_, rfl⟩
  rw [hq]
  go_enter Tryd.func48, Tryd.ntmps48
  go_wp2_with fail
  refine (cmp_isNaNS a w).mono ?_
  rintro e w1 ⟨rfl, rfl⟩
  go_wp2_with fail
  go_ret
  exact ⟨rfl, rfl⟩
set_option maxRecDepth 100000 in
theorem sl_isNaNS (a : ByteArray) (w : World) : Calls Tryd.prog 49 #[.string a] w fun e w' => e = .returned (.bool false) ∧ w = w' := by
  have he : (!(a.toList == a.toList)) = false := by simp
  go_enter Tryd.func49, Tryd.ntmps49
  go_wp2_with fail
  go_ret
  exact ⟨ret_bool' (by simp), rfl⟩

set_option maxRecDepth 100000 in
set_option maxHeartbeats 2000000 in
theorem texts_Search (A : Option Addr) (n c : Nat) (l : List ByteArray) (key : ByteArray) (w : World) (hr : Reads w w.heap.size 1 A n (l.map Value.string)) (hC : UpT l) (hn : n ≤ 1000000) :
    Calls Tryd.prog 39 #[.slice A n c, .string key] w fun e w' => e = .returned (.tuple #[.int .i64 (lk l key), .bool (hitT l key (lk l key))]) ∧ w = w' := by
  have hnl : l.length = n := by have := hr.1; simpa using this
  have hlt := lk_lt key l
  have hge := lk_ge key l hC
  have hle := lk_le l key
  rw [hnl] at hle
  obtain ⟨q, hq⟩ : ∃ q, (hitT l key (lk l key)) = q := ⟨_, rfl⟩
  rw [hq]
  obtain ⟨p, hp⟩ : ∃ p, lk l key = p := ⟨_, rfl⟩
  rw [hp] at hlt hge hle hq ⊢
  have HR := Lib.hid hr
  have HNL := Lib.hid hnl
  have HLT := Lib.hid hlt
  have HGE := Lib.hid hge
  have HQ := Lib.hid hq
  clear hr hnl hC hlt hge hq hp
  go_enter Tryd.func39, Tryd.ntmps39
  go_wp2_with fail
  go_loop [7, 8, 9] (fun v9 v10 _ => ∃ i j : Nat, v9 = .int .i64 i ∧ v10 = .int .i64 j ∧ i ≤ p ∧ p ≤ j ∧ j ≤ n) (fun v9 v10 _ => (intOf v10).toNat - (intOf v9).toNat)
  case atStart => exact ⟨0, n, rfl, rfl, Nat.zero_le _, hle, Nat.le_refl _⟩
  case round =>
    obtain ⟨i, j, rfl, rfl, hi, hj, hjn⟩ := hrel
    by_cases hij : i < j
    · obtain ⟨h, hh⟩ : ∃ h, (i + j) / 2 = h := ⟨_, rfl⟩
      have hh1 : i ≤ h := by omega
      have hh2 : h < j := by omega
      have hhl : h < l.length := by have := HNL.out; omega
      obtain ⟨b, off, rfl, hb, hc1⟩ := Reads.form HR.out (by omega)
      have H3 := Lib.hid (HLT.out h hhl)
      have H4 := Lib.hid (HGE.out h hhl)
      obtain ⟨x, hx⟩ : ∃ x, l[h]'hhl = x := ⟨_, rfl⟩
      have p1 := hc1 h (.string x) (by rw [List.getElem?_map, List.getElem?_eq_getElem hhl, hx]; rfl)
      rw [hx] at H3 H4
      have HC := Lib.hid (cmp_LessS x key w)
      obtain ⟨cz, hcz⟩ : ∃ cz, ltT x key = cz := ⟨_, rfl⟩
      rw [hcz] at HC H3 H4
      have HH := Lib.hid hh
      clear hc1 hx hcz hh
      go_upto_region 5 with fail
      rw [show ((i : Int) + (j : Int)) / 2 = (h : Int) by have := HH.out; omega]
      go_wp2_with fail
      refine HC.out.mono ?_
      rintro e w1 ⟨rfl, rfl⟩
      cases cz with
      | true =>
        have hhp : h < p := by
          by_cases h9 : h < p
          · exact h9
          · have := H4.out (by omega)
            cases this
        go_wp2_with fail
        go_round
        case rel => exact ⟨h + 1, j, by go_num, rfl, by omega, hj, hjn⟩
        case measure => simp [intOf]; omega
      | false =>
        have hhp : p ≤ h := by
          by_cases h9 : h < p
          · have := H3.out h9
            cases this
          · omega
        go_wp2_with fail
        go_round
        case rel => exact ⟨i, h, rfl, rfl, hi, hhp, by omega⟩
        case measure => simp [intOf]; omega
    · have hip : i = p := by omega
      have hjp : j = p := by omega
      subst hip
      subst hjp
      by_cases hpn : j < n
      · have hpl : j < l.length := by have := HNL.out; omega
        obtain ⟨b, off, rfl, hb, hc1⟩ := Reads.form HR.out (by omega)
        obtain ⟨x, hx⟩ : ∃ x, l[j]'hpl = x := ⟨_, rfl⟩
        have p1 := hc1 j (.string x) (by rw [List.getElem?_map, List.getElem?_eq_getElem hpl, hx]; rfl)
        have hqq := HQ.out
        unfold hitT at hqq
        rw [List.getElem?_eq_getElem hpl, hx] at hqq
        simp only at hqq
        clear hc1 hx
        cases q with
        | true =>
          go_wp2_with fail
          go_ret2
          exact ⟨rfl, rfl⟩
        | false =>
          have HN1 := Lib.hid (sl_isNaNS x w)
          go_wp2_with fail
          refine HN1.out.mono ?_
          rintro e w1 ⟨rfl, rfl⟩
          go_wp2_with fail
          go_ret2
          exact ⟨rfl, rfl⟩
      · have HT : Hid (false = q) := Lib.hid (by
          have h := HQ.out
          unfold hitT at h
          rw [List.getElem?_eq_none (by have := HNL.out; omega)] at h
          exact h)
        go_wp2_with fail
        go_ret2
        exact ⟨by rw [← HT.out]; rfl, rfl⟩

theorem e_toList : (⟨#[]⟩ : ByteArray).toList = [] := by rw [Go.ByteArray.toList_eq]
theorem e_lt (s : ByteArray) (h : s.toList ≠ []) : ltT ⟨#[]⟩ s = true := by
  rw [← lt_T, e_toList]
  cases hs : s.toList with
  | nil => exact absurd hs h
  | cons a l => rfl
theorem e_le (s : ByteArray) : leT ⟨#[]⟩ s = true := by
  rw [← le_T, e_toList]
  cases hs : s.toList with
  | nil => rfl
  | cons a l => rfl
theorem range_of (K : List ByteArray) (key : ByteArray) (hU : UpT K) (hne : ∀ s ∈ K, s.toList ≠ []) :
    UpT (⟨#[]⟩ :: K) ∧ (if hitT (⟨#[]⟩ :: K) key (lk (⟨#[]⟩ :: K) key) then ((lk (⟨#[]⟩ :: K) key : Nat) : Int) else ((lk (⟨#[]⟩ :: K) key : Nat) : Int) - 1) = (rk K key : Nat) := by
  have hUS : UpT (⟨#[]⟩ :: K) := List.pairwise_cons.2 ⟨fun s hs => e_lt s (hne s hs), hU⟩
  refine ⟨hUS, ?_⟩
  have h1 := rk_lk (⟨#[]⟩ :: K) key hUS
  have h2 : rk (⟨#[]⟩ :: K) key = rk K key + 1 := by unfold rk; simp [e_le key]
  rw [h2] at h1
  unfold hitT
  generalize lk (⟨#[]⟩ :: K) key = p at *
  cases h3 : ((⟨#[]⟩ : ByteArray) :: K)[p]? with
  | none =>
    rw [h3] at h1
    simp only at h1 ⊢
    rw [if_neg (by decide)]
    omega
  | some s =>
    rw [h3] at h1
    simp only at h1 ⊢
    split
    · rename_i h4; rw [if_pos h4] at h1; omega
    · rename_i h4; rw [if_neg h4] at h1; omega

set_option maxRecDepth 100000 in
set_option maxHeartbeats 1000000 in
theorem ring_Range (g : Nat) (K : List ByteArray) (nodes copies : Int) (P : List Pl) (key : ByteArray) (w : World) (hr : RingAt w g (⟨#[]⟩ :: K) nodes copies P) (hU : UpT K) (hne : ∀ s ∈ K, s.toList ≠ []) (hl : K.length ≤ 100) :
    Calls Tryd.prog 19 #[.pointer (some ⟨g, 0, none⟩), .string key] w fun e w' => e = .returned (.int .i64 (rk K key : Nat)) ∧ w = w' := by
  obtain ⟨hUS, hro⟩ := range_of K key hU hne
  obtain ⟨A, B, c, d, hb, hs, _⟩ := hr.ring
  have HC := Lib.hid (texts_Search A _ c _ key w hs hUS (by simp; omega))
  have hle := lk_le (⟨#[]⟩ :: K) key
  obtain ⟨n, hn⟩ : ∃ n, ((⟨#[]⟩ : ByteArray) :: K).length = n := ⟨_, rfl⟩
  have hn2 : n ≤ 101 := by rw [← hn]; simp; omega
  rw [hn] at HC hb hle
  have q0 := hb.cell 0
  obtain ⟨r, hr0⟩ : ∃ r, rk K key = r := ⟨_, rfl⟩
  obtain ⟨p, hp⟩ : ∃ p, lk (⟨#[]⟩ :: K) key = p := ⟨_, rfl⟩
  rw [hp] at HC hro hle
  obtain ⟨q, hq⟩ : ∃ q, hitT (⟨#[]⟩ :: K) key p = q := ⟨_, rfl⟩
  rw [hq] at HC hro
  rw [hr0] at hro ⊢
  have HRO := Lib.hid hro
  clear hro hUS hs hb hr hn hp hq hr0 hU hne
  go_enter Tryd.func19, Tryd.ntmps19
  go_wp2_with fail
  refine HC.out.mono ?_
  rintro e w1 ⟨rfl, rfl⟩
  cases q with
  | true =>
    go_wp2_with fail
    go_ret
    exact ⟨ret_int HRO.out, rfl⟩
  | false =>
    go_wp2_with fail
    go_ret
    exact ⟨ret_int HRO.out, rfl⟩

/-- A range's bounds. -/
def bndV (S : List ByteArray) (i : Int) : Value := if i < 0 ∨ (S.length : Int) ≤ i then .tuple #[.string ⟨#[]⟩, .string ⟨#[]⟩, .bool false] else .tuple #[.string (S[i.toNat]?.getD ⟨#[]⟩), .string (S[i.toNat + 1]?.getD ⟨#[]⟩), .bool true]

set_option maxRecDepth 100000 in
set_option maxHeartbeats 2000000 in
theorem ring_Bounds (g : Nat) (S : List ByteArray) (nodes copies : Int) (P : List Pl) (i : Int) (w : World) (hr : RingAt w g S nodes copies P) (hl : S.length ≤ 100) (hi1 : -9223372036854775808 ≤ i) (hi2 : i ≤ 9223372036854775807) :
    Calls Tryd.prog 21 #[.pointer (some ⟨g, 0, none⟩), .int .i64 i] w fun e w' => e = .returned (bndV S i) ∧ Below w.heap.size w w' := by
  obtain ⟨A, B, c, d, hb, hs, _⟩ := hr.ring
  obtain ⟨n, hn⟩ : ∃ n, S.length = n := ⟨_, rfl⟩
  rw [hn] at hb hs hl
  have q0 := hb.cell 0
  clear hr hb
  by_cases hi : 0 ≤ i ∧ i < n
  · obtain ⟨k, rfl⟩ : ∃ k : Nat, i = k := ⟨i.toNat, by omega⟩
    have hkS : k < S.length := by omega
    obtain ⟨b, off, rfl, hbb, hall⟩ := Reads.form hs (by omega)
    obtain ⟨x, hx⟩ : ∃ x, S[k]'hkS = x := ⟨_, rfl⟩
    have e1 := hall k (.string x) (by rw [List.getElem?_map, List.getElem?_eq_getElem hkS, hx]; rfl)
    have hk : k < n := by omega
    by_cases hk1 : k + 1 < n
    · have hkS1 : k + 1 < S.length := by omega
      obtain ⟨y, hy⟩ : ∃ y, S[k + 1]'hkS1 = y := ⟨_, rfl⟩
      have e2 := hall (k + 1) (.string y) (by rw [List.getElem?_map, List.getElem?_eq_getElem hkS1, hy]; rfl)
      have hv : bndV S (k : Int) = .tuple #[.string x, .string y, .bool true] := by
        unfold bndV
        rw [if_neg (by omega), show (k : Int).toNat = k by omega, List.getElem?_eq_getElem hkS, List.getElem?_eq_getElem hkS1, hx, hy]
        rfl
      rw [hv]
      have hk2 : (k : Int) + 1 < (n : Int) := by omega
      have c0 := cell_regrown q0
      have c1 := cell_regrown e1
      have c2 := cell_regrown e2
      clear hv hx hy hall hs hn hi
      go_enter Tryd.func21, Tryd.ntmps21
      go_upto_region 4 with fail
      refine wp_region_quiet_below (by kernel_rfl) (by kernel_rfl) ?_
      repeat (go_big_quiet_step (fail))
      refine wpQuiet_nil ?_
      rintro w4 ⟨⟨dq, osq⟩, rfl⟩
      have b4 := below_regrown w dq osq
      clear c0 c1 c2
      go_wp2_with fail
      go_ret3
      exact ⟨rfl, b4⟩
    · have hv : bndV S (k : Int) = .tuple #[.string x, .string ⟨#[]⟩, .bool true] := by
        unfold bndV
        rw [if_neg (by omega), show (k : Int).toNat = k by omega, List.getElem?_eq_getElem hkS, List.getElem?_eq_none (by omega), hx]
        rfl
      rw [hv]
      have hk2 : ¬ (k : Int) + 1 < (n : Int) := by omega
      clear hv hx hall hs hn hi
      go_enter Tryd.func21, Tryd.ntmps21
      go_wp2_with fail
      go_ret3
      exact ⟨rfl, Below.refl _ _⟩
  · have hv : bndV S i = .tuple #[.string ⟨#[]⟩, .string ⟨#[]⟩, .bool false] := by
      unfold bndV
      rw [if_pos (by omega)]
    rw [hv]
    by_cases hi0 : i < 0
    · clear hi hs hn hv
      go_enter Tryd.func21, Tryd.ntmps21
      go_wp2_with fail
      go_ret3
      exact ⟨rfl, Below.refl _ _⟩
    · have hi3 : i ≥ n := by omega
      clear hi hs hn hv
      go_enter Tryd.func21, Tryd.ntmps21
      go_wp2_with fail
      go_ret3
      exact ⟨rfl, Below.refl _ _⟩
end Go.Proofs.YtncdchhpdbmfcaaDoor
