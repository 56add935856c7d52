/- slices.IndexFunc, ContainsFunc, Clone, DeleteFunc over spans. A predicate may lay blocks of its own, and turns nothing that was there. -/
import Derived.Test.YtomefcngaclehaaSpnA
import Derived.Test.YtomefcngaclehaaForm
import Derived.Lib.SliceRun
namespace Go.Proofs.Ytomefcngaclehaa
open Go.RowKit Go.Sort

/-- What is asked of a predicate: at every span, in every world in which all below B lies as it did. -/
def PredS (g : Nat) (lb : Array Value) (p : Sp → Bool) (B : Nat) (w : World) : Prop :=
  ∀ (W : World) (x y : ByteArray), Below B w W → Calls Try.prog g (#[.agg #[.string x, .string y]] ++ lb) W fun e w' => e = .returned (.bool (p (x, y))) ∧ Below W.heap.size W w'
section
variable {α : Type}
/-- The place of the first one that meets p; -1: there is none. -/
def IdxP (p : α → Bool) (l : List α) (r : Int) : Prop := (r = -1 ∧ ∀ x ∈ l, p x = false) ∨ ∃ k : Nat, r = k ∧ k < l.length ∧ (∃ x, l[k]? = some x ∧ p x = true) ∧ ∀ x ∈ l.take k, p x = false
theorem IdxP.any {p : α → Bool} {l : List α} {r : Int} (h : IdxP p l r) : decide (0 ≤ r) = l.any p := by
  rcases h with ⟨rfl, h⟩ | ⟨k, rfl, _, ⟨x, hx, hp⟩, _⟩
  · have : l.any p = false := by
      rw [List.any_eq_false]
      intro x hx
      rw [h x hx]
      decide
    rw [this]
    decide
  · have : l.any p = true := List.any_eq_true.2 ⟨x, List.mem_of_getElem? hx, hp⟩
    rw [this]
    simp
theorem take_noneP {p : α → Bool} {l : List α} {k : Nat} {x : α} (h : ∀ y ∈ l.take k, p y = false) (hk : k < l.length) (hx : l[k] = x) (hp : p x = false) : ∀ y ∈ l.take (k + 1), p y = false := by
  intro y hy
  rw [List.take_succ_eq_append_getElem hk] at hy
  rcases List.mem_append.1 hy with hy | hy
  · exact h y hy
  · rw [List.mem_singleton] at hy
    rw [hy, hx]
    exact hp
/-- What the loop of DeleteFunc knows: the first i are what is kept of the first j, and from j on it is as it was. -/
def DelP (p : α → Bool) (l : List α) (i j : Nat) (L : List α) : Prop := L.length = l.length ∧ i < j ∧ L.take i = (l.take j).filter (fun x => !p x) ∧ L.drop j = l.drop j
theorem DelP.at_ {p : α → Bool} {l L : List α} {i j : Nat} (h : DelP p l i j L) (hj : j < l.length) : ∃ hL : j < L.length, L[j] = l[j] := by
  have hL : j < L.length := by rw [h.1]; exact hj
  refine ⟨hL, ?_⟩
  have h1 := congrArg (·[0]?) h.2.2.2
  simp only [List.getElem?_drop, Nat.add_zero] at h1
  rw [List.getElem?_eq_getElem hL, List.getElem?_eq_getElem hj] at h1
  injection h1
theorem DelP.skip {p : α → Bool} {l L : List α} {i j : Nat} (h : DelP p l i j L) (hj : j < l.length) (hp : p l[j] = true) : DelP p l i (j + 1) L := by
  obtain ⟨h1, h2, h3, h4⟩ := h
  refine ⟨h1, by omega, ?_, ?_⟩
  · rw [List.take_succ_eq_append_getElem hj, List.filter_append, h3]
    simp [hp]
  · rw [← List.drop_drop, h4, List.drop_drop]
theorem DelP.keep {p : α → Bool} {l L : List α} {i j : Nat} (h : DelP p l i j L) (hj : j < l.length) (hp : p l[j] = false) : DelP p l (i + 1) (j + 1) (L.set i l[j]) := by
  obtain ⟨h1, h2, h3, h4⟩ := h
  refine ⟨by rw [List.length_set]; exact h1, by omega, ?_, ?_⟩
  · rw [List.take_succ_eq_append_getElem hj, List.filter_append, ← h3]
    rw [List.take_succ_eq_append_getElem (by rw [List.length_set]; omega), List.take_set_of_le (Nat.le_refl _)]
    simp [hp]
  · rw [List.drop_set_of_lt (by omega), ← List.drop_drop, h4, List.drop_drop]
theorem DelP.start {p : α → Bool} {l : List α} {k : Nat} (hk : k < l.length) (hp : p l[k] = true) (h : ∀ x ∈ l.take k, p x = false) : DelP p l k (k + 1) l := by
  refine ⟨rfl, by omega, ?_, rfl⟩
  rw [List.take_succ_eq_append_getElem hk, List.filter_append]
  have : (l.take k).filter (fun x => !p x) = l.take k := List.filter_eq_self.2 fun x hx => by rw [h x hx]; rfl
  rw [this]
  simp [hp]
end
section
variable {w : World} {base e size g n cap : Nat} {xs : List Value}
theorem own_truncP (h : w.ownsRow base e size (.slice (some ⟨g, 0, none⟩) n cap) n xs) (k : Nat) (hk : k ≤ n) : w.ownsRow base e size (.slice (some ⟨g, 0, none⟩) k cap) k (xs.take (k * size)) := by
  have hks : k * size ≤ n * size := Nat.mul_le_mul_right _ hk
  obtain ⟨h1, h2⟩ := h
  refine ⟨by rw [List.length_take, h1]; omega, ?_⟩
  rcases h2 with ⟨hv, _⟩ | ⟨g', cap', cur, hv, hb, hh, hn, hc, hs, ht⟩
  · cases hv
  · injection hv with hv1 hv2 hv3
    injection hv1 with hv1
    injection hv1 with hv1
    subst hv1 hv3
    refine .inr ⟨g, cap, cur, rfl, hb, hh, by omega, hc, hs, ?_⟩
    rw [← ht, List.take_take, Nat.min_eq_left hks]
theorem own_setCellsP : ∀ (vs : List Value) (o : Nat) (w : World) (xs : List Value), w.ownsRow base e size (.slice (some ⟨g, 0, none⟩) n cap) n xs →
    ∃ xs', (w.setCells g o vs).ownsRow base e size (.slice (some ⟨g, 0, none⟩) n cap) n xs' ∧ (∀ k, k ≤ o → xs'.take k = xs.take k) ∧ w.grownBy (w.setCells g o vs) (some g)
  | [], o, w, xs, h => ⟨xs, h, fun _ _ => rfl, World.grownBy.refl _ _⟩
  | v :: vs, o, w, xs, h => by
    obtain ⟨h1, h2⟩ := World.ownsRow.stored h o v
    obtain ⟨xs', h3, h4, h5⟩ := own_setCellsP vs (o + 1) _ _ h1
    exact ⟨xs', h3, fun k hk => by rw [h4 k (by omega), List.take_set_of_le (by omega)], h2.trans h5⟩
end
/-- 'clear(s)', s a slice of elements of several cells. -/
theorem run_clear_k {P : Program} (w : World) (t e ty : TypeId) (z : Value) (ht : P.underlying t = some (.slice e)) (hv : ∀ w, (zeroValue e).run P w = .ok z w) (b o n c : Nat) (hn : 0 < n) (L : List Value) (hL : (Builtin.zeroCells z.cells n).toList = L)
    (h1 : ∀ v ∈ L, v.oneCell' = true) (hc : ∀ j, j < L.length → (w.cell? ⟨b, o + j, none⟩).isSome = true) (hf : ∀ j, j < L.length → w.frozen? ⟨b, o + j, none⟩ = false) :
    (Builtin.clear_ #[t] ty #[.slice (some ⟨b, o, none⟩) n c]).run P w = .ok (.tuple #[]) (w.setCells b o L) := by
  have hst := run_storeCells_cells (P := P) b o L 0 w (by simpa using hc) (by simpa using hf) h1
  simp only [Nat.add_zero] at hst
  obtain ⟨m, rfl⟩ : ∃ m, n = m + 1 := ⟨n - 1, by omega⟩
  simp [Builtin.clear_, run_underlying ht, hv, hL, hst]
theorem zero_span (n : Nat) : ∃ L, (Builtin.zeroCells #[.string ⟨#[]⟩, .string ⟨#[]⟩] n).toList = L ∧ L.length = n * 2 ∧ ∀ v ∈ L, v.oneCell' = true := by
  refine ⟨_, rfl, by simp [Builtin.zeroCells], fun v hv => ?_⟩
  unfold Builtin.zeroCells at hv
  simp only [Array.toList_map, List.mem_map] at hv
  obtain ⟨i, -, rfl⟩ := hv
  have h2 : i % 2 = 0 ∨ i % 2 = 1 := by omega
  show ((#[Value.string ⟨#[]⟩, Value.string ⟨#[]⟩] : Array Value)[i % 2]!).oneCell' = true
  rcases h2 with h2 | h2 <;> rw [h2] <;> rfl

set_option maxRecDepth 100000 in
set_option maxHeartbeats 1000000 in
theorem spans_IndexFunc (A : Option Addr) (n c : Nat) (l : List Sp) (w : World) (B : Nat) (g : Nat) (lb : Array Value) (p : Sp → Bool) (eg : ∀ args w, (callFunc g args).run Try.prog w = .ok (.enter g args) w)
    (hr : RdP w A l) (hnl : l.length = n) (hB : B ≤ w.heap.size) (hn : n ≤ 1000000000) (hp : PredS g lb p B w) :
    Calls Try.prog 66 #[.slice A n c, .func (.func g) #[] lb] w fun e w' => ∃ r, e = .returned (.int .i64 r) ∧ IdxP p l r ∧ Below w.heap.size w w' := by
  have HR := Lib.hid hr
  have HL := Lib.hid hnl
  have HP := Lib.hid hp
  clear hr hnl hp
  go_enter Try.func66, Try.ntmps66
  go_wp2
  go_loopw [5, 8] (fun _ v8 wr => ∃ k : Nat, v8 = .int .i64 k ∧ k ≤ n ∧ (∀ x ∈ l.take k, p x = false) ∧ Below w.heap.size w wr) (fun _ v8 _ => n - (intOf v8).toNat)
  case atStart => exact ⟨0, rfl, Nat.zero_le _, by simp, Below.refl _ _⟩
  case round =>
    obtain ⟨k, rfl, hk, hx, hb⟩ := hrel
    have HX := Lib.hid hx
    clear hx
    by_cases hlt : k < n
    · have hkl : k < l.length := by have := HL.out; omega
      obtain ⟨b, off, rfl, _, hc⟩ := (HR.out.below hb).at_ (by omega)
      obtain ⟨q0, q1⟩ := hc k hkl
      have hcall := HP.out wr l[k].1 l[k].2 (hb.mono hB)
      have hget : l[k]? = some l[k] := List.getElem?_eq_getElem hkl
      obtain ⟨x, hxx⟩ : ∃ x, l[k] = x := ⟨_, rfl⟩
      rw [hxx] at q0 q1 hcall hget
      obtain ⟨x1, x2⟩ := x
      have HXX := Lib.hid hxx
      have HG := Lib.hid hget
      clear hc hxx hget
      dsimp only at q0 q1 hcall
      cases hq : p (x1, x2) with
      | true =>
        rw [hq] at hcall
        have HQ := Lib.hid hq
        have HC := Lib.hid hcall
        clear hq hcall
        go_wp2_with fail
        refine HC.out.mono ?_
        rintro e w' ⟨rfl, hb'⟩
        go_wp2_with fail
        go_ret
        exact ⟨k, rfl, .inr ⟨k, rfl, hkl, ⟨_, HG.out, HQ.out⟩, HX.out⟩, hb.trans (hb'.mono hb.size)⟩
      | false =>
        rw [hq] at hcall
        have HQ := Lib.hid hq
        have HC := Lib.hid hcall
        clear hq hcall
        go_wp2_with fail
        refine HC.out.mono ?_
        rintro e w' ⟨rfl, hb'⟩
        go_wp2_with fail
        go_roundw
        case rel => exact ⟨k + 1, by go_num, by omega, take_noneP HX.out hkl HXX.out HQ.out, hb.trans (hb'.mono hb.size)⟩
        case measure => simp [intOf]; omega
    · go_wp2
      go_ret
      exact ⟨-1, rfl, .inl ⟨rfl, by have := HX.out; rwa [List.take_of_length_le (by have := HL.out; omega)] at this⟩, hb⟩

set_option maxRecDepth 100000 in
theorem spans_ContainsFunc (A : Option Addr) (n c : Nat) (l : List Sp) (w : World) (B : Nat) (g : Nat) (lb : Array Value) (p : Sp → Bool) (eg : ∀ args w, (callFunc g args).run Try.prog w = .ok (.enter g args) w)
    (hr : RdP w A l) (hnl : l.length = n) (hB : B ≤ w.heap.size) (hn : n ≤ 1000000000) (hp : PredS g lb p B w) :
    Calls Try.prog 56 #[.slice A n c, .func (.func g) #[] lb] w fun e w' => e = .returned (.bool (l.any p)) ∧ Below w.heap.size w w' := by
  have HC := Lib.hid (spans_IndexFunc A n c l w B g lb p eg hr hnl hB hn hp)
  clear hr hp
  go_enter Try.func56, Try.ntmps56
  go_wp2_with fail
  refine HC.out.mono ?_
  rintro e w' ⟨r, rfl, hr, hb⟩
  have HR := Lib.hid hr.any
  clear hr
  go_wp2_with fail
  go_ret
  exact ⟨ret_bool' HR.out, hb⟩

def FreshP (w : World) (l : List Sp) (e : Ending) (w' : World) : Prop := ∃ v', e = .returned v' ∧ OwnP 41 w' w.heap.size v' l ∧ Below w.heap.size w w'
theorem flat_one (l : List Sp) : ∀ u ∈ l.flatMap spL, u.oneCell' = true := fun u hu => by
  obtain ⟨s, _, h⟩ := List.mem_flatMap.1 hu
  exact sp_one s u h

set_option maxRecDepth 100000 in
set_option maxHeartbeats 1000000 in
theorem spans_Clone (A : Option Addr) (n c : Nat) (l : List Sp) (w : World) (hr : RdP w A l) (hnl : l.length = n) (hA : A = none → c = 0) (hlen : n ≤ 1000000000) :
    Calls Try.prog 49 #[.slice A n c] w (FreshP w l) := by
  rcases A with _ | ad
  · have hc := hA rfl
    subst hc
    have h0 : l.length = 0 := by
      rcases Nat.eq_zero_or_pos l.length with h | h
      · exact h
      · obtain ⟨ad, h1, _⟩ := hr.2 h
        cases h1
    have hl := List.eq_nil_of_length_eq_zero h0
    subst hl
    have hnl : n = 0 := hnl.symm
    subst hnl
    clear hr hA h0
    have F : Hid (FreshP w [] (.returned (.slice none 0 0)) w) := Lib.hid ⟨_, rfl, OwnP.nil_ _ _ _, Below.refl _ _⟩
    have hq := fun (w : World) (a : Option Addr) (n c n' c' : Nat) => Lib.run_eql_slice_nil (P := Try.prog) w 39 41 a n c n' c' Try.underlying39
    go_enter Try.func49, Try.ntmps49
    go_wp2
    go_ret
    exact F.out
  · clear hA
    unfold RdP at hr
    rw [hnl] at hr
    have HR := Lib.hid hr
    clear hr
    have hq := fun (w : World) (a : Option Addr) (n c n' c' : Nat) => Lib.run_eql_slice_nil (P := Try.prog) w 39 41 a n c n' c' Try.underlying39
    obtain ⟨i0, hi, hz0, hz1, hz2⟩ := info_parts info_span
    have HI := Lib.hid (And.intro hi (And.intro hz0 (And.intro hz1 hz2)))
    have HN := Lib.hid hnl
    clear hi hz0 hz1 hz2 hnl
    go_enter Try.func49, Try.ntmps49
    go_wp2_with (at_builtin; go_must (refine wpList_append_any _ rfl _ _ 39 rfl w.heap.size 41 i0 (.agg #[.string ⟨#[]⟩, .string ⟨#[]⟩]) 2 32 Try.underlying39 HI.out.1 HI.out.2.1 HI.out.2.2.1 HI.out.2.2.2 rfl (by decide) (.slice (some ⟨w.heap.size, 0, none⟩) 0 0) 0 [] rfl (World.ownsRow_made w #[] 0 (Nat.le_refl _) (by decide) (by decide)) w.heap.size (some ad) n c (l.flatMap spL) rfl (HR.out.alloc (Nat.le_refl _) _) (flat_one l) (by unfold maxLen; omega) (by omega) (by simp) ?_); intro v' w1 hown hg hlies)
    go_ret
    refine ⟨v', rfl, ?_, ?_⟩
    · unfold OwnP
      rw [Nat.zero_add, List.nil_append] at hown
      rw [HN.out]
      exact hown
    · refine Below.grown ((Below.refl _ _).alloc (Nat.le_refl _) _) hg (by simp) ?_
      intro k hk
      have h5 : w.heap.size = k := by simpa [Value.ownBlock] using hk
      omega

theorem sp_setat : ∀ (L : List Sp) (i : Nat) (x y : ByteArray), ((L.flatMap spL).set (i * 2) (.string x)).set (i * 2 + 1) (.string y) = (L.set i (x, y)).flatMap spL
  | [], i, x, y => rfl
  | c :: L, 0, x, y => rfl
  | c :: L, i + 1, x, y => by
    have ih := sp_setat L i x y
    show ((Value.string c.1 :: Value.string c.2 :: L.flatMap spL).set ((i + 1) * 2) (.string x)).set ((i + 1) * 2 + 1) (.string y) = Value.string c.1 :: Value.string c.2 :: (L.set i (x, y)).flatMap spL
    rw [show (i + 1) * 2 = i * 2 + 1 + 1 by omega, List.set_cons_succ, List.set_cons_succ, List.set_cons_succ, List.set_cons_succ, ih]
theorem sp_take : ∀ (L : List Sp) (i : Nat), (L.flatMap spL).take (i * 2) = (L.take i).flatMap spL
  | [], i => by simp
  | c :: L, 0 => rfl
  | c :: L, i + 1 => by
    have ih := sp_take L i
    show (Value.string c.1 :: Value.string c.2 :: L.flatMap spL).take ((i + 1) * 2) = Value.string c.1 :: Value.string c.2 :: (L.take i).flatMap spL
    rw [show (i + 1) * 2 = i * 2 + 1 + 1 by omega, List.take_succ_cons, List.take_succ_cons, ih]

/-- What DeleteFunc hands back. -/
def DelE (p : Sp → Bool) (l : List Sp) (B base : Nat) (w : World) (e : Ending) (w' : World) : Prop := ∃ v', e = .returned v' ∧ OwnP 41 w' base v' (l.filter fun x => !p x) ∧ Below B w w'

set_option maxRecDepth 100000 in
set_option maxHeartbeats 4000000 in
theorem spans_DeleteFunc (v : Value) (l : List Sp) (w : World) (B base : Nat) (g : Nat) (lb : Array Value) (p : Sp → Bool) (eg : ∀ args w, (callFunc g args).run Try.prog w = .ok (.enter g args) w)
    (ho : OwnP 41 w base v l) (hBb : B ≤ base) (hB : B ≤ w.heap.size) (hn : l.length ≤ 1000000) (hp : PredS g lb p B w) :
    Calls Try.prog 48 #[v, .func (.func g) #[] lb] w (DelE p l B base w) := by
  obtain ⟨A, c, rfl, hc, _, hr⟩ := ho.reads
  have HC := Lib.hid (spans_IndexFunc A l.length c l w B g lb p eg hr rfl hB (by omega) hp)
  have HO := Lib.hid ho
  have HP := Lib.hid hp
  obtain ⟨n, hnl⟩ : ∃ n, l.length = n := ⟨_, rfl⟩
  rw [hnl] at HC ⊢
  rw [hnl] at hc hn
  have HN := Lib.hid hnl
  clear ho hr hp hnl
  go_enter Try.func48, Try.ntmps48
  go_wp2_with fail
  refine HC.out.mono ?_
  clear HC
  rintro e w1 ⟨r, rfl, hr, hb⟩
  rcases hr with ⟨rfl, hall⟩ | ⟨k, rfl, hk, ⟨x, hx, hpx⟩, hbef⟩
  · have HA := Lib.hid hall
    clear hall
    go_wp2_with fail
    go_ret
    refine ⟨_, rfl, ?_, hb.mono hB⟩
    have e1 : l.filter (fun x => !p x) = l := List.filter_eq_self.2 fun x hx => by rw [HA.out x hx]; rfl
    rw [e1]
    have := HO.out.below hb
    rwa [HN.out] at this
  have hst : DelP p l k (k + 1) l := by
    rw [List.getElem?_eq_getElem hk] at hx
    injection hx with hx
    exact .start hk (by rw [hx]; exact hpx) hbef
  have hkn : k < n := by have := HN.out; omega
  have o1 := HO.out.below hb
  rw [HN.out] at o1
  obtain ⟨b, hA⟩ : ∃ b, A = some ⟨b, 0, none⟩ := by
    obtain ⟨A', c', e5, _, _, h5⟩ := own_form o1
    rw [HN.out] at h5
    obtain ⟨g5, h6, _⟩ := h5 (by omega)
    injection e5 with e51
    exact ⟨g5, e51.trans h6⟩
  subst hA
  have HST := Lib.hid hst
  have HO1 := Lib.hid o1
  have hne : ((k : Int) == -1) = false := beq_eq_false_iff_ne.2 (by omega)
  have hbB := hb.mono hB
  clear hst o1 hx hpx hbef HO hk
  go_wp2_with fail
  clear hne
  go_loopw [5, 6, 7] (fun v5 v6 _ wr => ∃ (i j : Nat) (L : List Sp), v5 = .int .i64 i ∧ v6 = .int .i64 j ∧ j ≤ n ∧ i ≤ n ∧ DelP p l i j L ∧ OwnP 41 wr base (.slice (some ⟨b, 0, none⟩) n c) L ∧ Below B w wr) (fun _ v6 _ _ => n - (intOf v6).toNat)
  case atStart => exact ⟨k, k + 1, l, rfl, by go_num, by omega, by omega, HST.out, HO1.out, hbB⟩
  case round =>
    obtain ⟨i, j, L, rfl, rfl, hj, hi, hD, hO, hBw⟩ := hrel
    have HD := Lib.hid hD
    have HO := Lib.hid hO
    have hLl : L.length = n := by have := hD.1; have := HN.out; omega
    have HL := Lib.hid hLl
    have hij := hD.2.1
    have hbb : base ≤ b ∧ b < wr.heap.size := hO.lt b rfl
    unfold OwnP at hO
    rw [hLl] at hO
    have HOr := Lib.hid hO
    clear hD hO hLl
    by_cases hlt : j < n
    · have hjl : j < l.length := by have := HN.out; omega
      obtain ⟨hjL, hje⟩ := HD.out.at_ hjl
      have q0 := World.ownsRow.cellAt HOr.out (j * 2) (by omega)
      have q1 := World.ownsRow.cellAt HOr.out (j * 2 + 1) (by omega)
      rw [(sp_get L j hjL).1, hje] at q0
      rw [(sp_get L j hjL).2, hje] at q1
      have hcall := HP.out (wr.alloc (.cells #[.string l[j].1, .string l[j].2] 41)) l[j].1 l[j].2 (hBw.alloc (by omega) _)
      have hsk := HD.out.skip hjl
      have hkp := HD.out.keep hjl
      generalize l[j] = y at *
      obtain ⟨y1, y2⟩ := y
      dsimp only at q0 q1 hcall
      have HSK := Lib.hid hsk
      have HKP := Lib.hid hkp
      clear hje hsk hkp
      have aO := Lib.hid (own_below HOr.out ((Below.refl wr.heap.size wr).alloc (Nat.le_refl _) (.cells #[.string y1, .string y2] 41)))
      have aB := Blk.new wr 41 #[.string y1, .string y2]
      cases hq : p (y1, y2) with
      | true =>
        rw [hq] at hcall
        have HQ := Lib.hid hq
        have HC := Lib.hid hcall
        clear hq hcall
        go_wp2_with fail
        refine HC.out.mono ?_
        rintro e w' ⟨rfl, hb'⟩
        go_wp2_with fail
        go_roundw
        case rel => exact ⟨i, j + 1, L, rfl, by go_num, by omega, hi, HSK.out HQ.out, (HO.out.below ((Below.refl wr.heap.size wr).alloc (Nat.le_refl _) _)).below hb', (hBw.alloc (by omega) _).trans (hb'.mono (by rw [World.size_alloc]; omega))⟩
        case measure => simp [intOf]; omega
      | false =>
        rw [hq] at hcall
        have HQ := Lib.hid hq
        have HC := Lib.hid hcall
        clear hq hcall
        go_wp2_with fail
        refine HC.out.mono ?_
        rintro e w' ⟨rfl, hb'⟩
        have hO' := own_below aO.out hb'
        have aB' := aB.below hb' aB.lt
        have p0 := aB'.cell 0
        have p1 := aB'.cell 1
        have hiL : i < L.length := by have := HL.out; omega
        have ci := World.ownsRow.cellAt hO' (i * 2) (by omega)
        have ci1 := World.ownsRow.cellAt hO' (i * 2 + 1) (by omega)
        rw [(sp_get L i hiL).1] at ci
        rw [(sp_get L i hiL).2] at ci1
        have fi := World.ownsRow.frozenAt hO' (i * 2)
        have fi1 := World.ownsRow.frozenAt hO' (i * 2 + 1)
        have s1 := World.ownsRow.stored hO' (i * 2) (.string y1)
        have s2 := World.ownsRow.stored s1.1 (i * 2 + 1) (.string y2)
        have HSET := Lib.hid (And.intro s2.1 (s1.2.trans s2.2))
        have hbs : w.heap.size ≤ w.heap.size := Nat.le_refl _
        have hBs := (hBw.alloc (o := .cells #[.string y1, .string y2] 41) (by omega)).trans (hb'.mono (by rw [World.size_alloc]; omega))
        clear q0 q1 hO' s1 s2 aB
        go_wp2_with fail
        go_roundw
        case rel =>
          refine ⟨i + 1, j + 1, L.set i (y1, y2), by go_num, by go_num, by omega, by omega, HKP.out HQ.out, ?_, ?_⟩
          · unfold OwnP
            rw [List.length_set, HL.out, ← sp_setat]
            exact HSET.out.1
          · exact Below.grown hBs HSET.out.2 (Nat.le_trans hB hBs.size) (fun q hq => by injection hq with hq; omega)
        case measure => simp [intOf]; omega
    · have hje : j = n := by omega
      subst hje
      have hfil : L.take i = l.filter (fun x => !p x) := by
        have := HD.out.2.2.1
        rwa [List.take_of_length_le (l := l) (by have := HN.out; omega)] at this
      have hlen : (l.filter fun x => !p x).length = i := by
        rw [← hfil, List.length_take, HL.out]
        omega
      obtain ⟨Z, hZ, hZl, hZ1⟩ := zero_span (j - i)
      obtain ⟨xs', h3, h4, h5⟩ := own_setCellsP Z (i * 2) wr _ HOr.out
      have tr := own_truncP h3 i hi
      rw [h4 (i * 2) (Nat.le_refl _), sp_take, hfil] at tr
      have hcl : ∀ ty, (Builtin.clear_ #[39] ty #[.slice (some ⟨b, i * 2, none⟩) (j - i) (c - i)]).run Try.prog wr = .ok (.tuple #[]) (wr.setCells b (i * 2) Z) := fun ty =>
        run_clear_k wr _ 41 ty (.agg #[.string ⟨#[]⟩, .string ⟨#[]⟩]) Try.underlying39 (fun _ => by kernel_rfl) b (i * 2) _ _ (by omega) Z hZ hZ1 (fun t ht => by
          rw [World.ownsRow.cellAt HOr.out (i * 2 + t) (by omega)]
          have h9 : i * 2 + t < (L.flatMap spL).length := by rw [sp_len, HL.out]; omega
          rw [List.getElem?_eq_getElem h9]
          rfl) (fun t _ => World.ownsRow.frozenAt HOr.out (i * 2 + t))
      have HTR := Lib.hid tr
      have HG := Lib.hid h5
      have HLE := Lib.hid hlen
      have hic : i ≤ c := by omega
      clear tr h3 h4 h5 hlen hfil hZ hZ1
      go_wp2_with fail
      go_ret
      refine ⟨_, rfl, ?_, Below.grown hBw HG.out (Nat.le_trans hB hBw.size) (fun q hq => by injection hq with hq; omega)⟩
      unfold OwnP
      rw [HLE.out]
      exact HTR.out
end Go.Proofs.Ytomefcngaclehaa
