/- Contract of the law's step. -/
import Derived.Test.YtfkooohnaodjmaaHinH
import Derived.Test.YtfkooohnaodjmaaHinF
namespace Go.Proofs.Ytfkooohnaodjmaa
open Go.RowKit Go.Sort

theorem LawL.stand {S : Nat → Prop} {w w' : World} {base n : Nat} {A : Option Addr} {L : List HintS} (h : LawL w base A n L) (hs : Stand S w w') (hb : base ≤ w.heap.size) (hS : ∀ k, k < base → S k) (hA : ∀ ad, A = some ad → S ad.block) : LawL w' base A n L := by
  refine ⟨⟨h.rd.1, fun h0 => ?_⟩, fun x hx => hs.reads hS hb (h.el x hx), h.ok, fun ad ha => Nat.lt_of_lt_of_le (h.lt ad ha) hs.size⟩
  obtain ⟨ad, hA2, hb2, hc⟩ := h.rd.2 h0
  refine ⟨ad, hA2, Nat.lt_of_lt_of_le hb2 hs.size, fun j u hu => ?_⟩
  rw [← hc j u hu]
  exact World.cell?_of_block (by rw [block_of_add]; exact hs.block ad.block hb2 (hA ad hA2))
/-- The store and the law's row: they tell the same. -/
structure Both (w : World) (gs base : Nat) (v : Value) (A : Option Addr) (n c : Nat) (L1 L2 : List HintS) : Prop where
  st : StH w gs base v L1
  lw : LawL w base A n L2
  same : L1.map hp = L2.map hp
  off : ∀ ad, A = some ad → some ad.block ≠ some gs ∧ some ad.block ≠ v.ownBlock
  cap : n ≤ c
  nil : A = none → c = 0
  few : n ≤ 100
  lo : base ≤ w.heap.size
theorem Both.below {w w' : World} {gs base n c : Nat} {v : Value} {A : Option Addr} {L1 L2 : List HintS} (h : Both w gs base v A n c L1 L2) (b : Below w.heap.size w w') : Both w' gs base v A n c L1 L2 :=
  ⟨h.st.below b, h.lw.below b h.lo, h.same, h.off, h.cap, h.nil, h.few, Nat.le_trans h.lo b.size⟩
theorem Both.len {w : World} {gs base n c : Nat} {v : Value} {A : Option Addr} {L1 L2 : List HintS} (h : Both w gs base v A n c L1 L2) : L1.length = n := by
  have h1 := congrArg List.length h.same
  rw [List.length_map, List.length_map] at h1
  rw [h1]
  exact h.lw.n_eq
/-- What a step ends in: both tell the same, whatever it was. -/
def StepE (w : World) (gs base : Nat) (e : Ending) (w' : World) : Prop :=
  ∃ v' A' n' c' L1 L2, e = .returned (.tuple #[.slice A' n' c', .bool true]) ∧ Both w' gs base v' A' n' c' L1 L2 ∧ Below base w w'
theorem StS.of_low {w : World} {gs base : Nat} {v : Value} {L : List HintS} (h : StH w gs base v L) : ∀ k, k < base → StS gs v k := fun k hk =>
  ⟨fun e => by injection e with e; have := h.base_; omega, fun e => by have := (World.ownsRow.lt h.own k e.symm).1; omega⟩
/-- Both turned: the law's row new (or as it was), the store's as its call says. -/
theorem both_of {w w1 w2 : World} {gs base n c n' c' : Nat} {v v' : Value} {A A' : Option Addr} {L1 L2 L1' L2' : List HintS} (h : Both w gs base v A n c L1 L2) (b1 : Below w.heap.size w w1) (h2 : LawL w1 base A' n' L2') (hA : A' = A ∨ ∀ ad, A' = some ad → w.heap.size ≤ ad.block)
    (hc : n' ≤ c') (hz : A' = none → c' = 0) (hn : n' ≤ 100) (hst : StH w2 gs base v' L1') (hs : Stand (StS gs v) w1 w2) (hl : LiesIn w1 v v') (he : L1'.map hp = L2'.map hp) : Both w2 gs base v' A' n' c' L1' L2' ∧ Below base w w2 := by
  have hst1 := h.st.below b1
  have hoff : ∀ ad, A' = some ad → StS gs v ad.block := fun ad ha => by
    rcases hA with e | e
    · rw [e] at ha
      exact h.off ad ha
    · have h3 := e ad ha
      refine ⟨fun e2 => ?_, fun e2 => ?_⟩
      · injection e2 with e2; have := h.st.blk.lt; omega
      · have := (World.ownsRow.lt h.st.own _ e2.symm).2; omega
  refine ⟨⟨hst, h2.stand hs (Nat.le_trans h.lo b1.size) (StS.of_low hst1) hoff, he, fun ad ha => ⟨(hoff ad ha).1, fun e => ?_⟩, hc, hz, hn, Nat.le_trans (Nat.le_trans h.lo b1.size) hs.size⟩, (b1.mono h.lo).trans (hs.below (StS.of_low hst1) (Nat.le_trans h.lo b1.size))⟩
  rcases hl with e2 | ⟨g, e2, hg⟩
  · exact (hoff ad ha).2 (e.trans e2)
  · rw [e2] at e
    injection e with e
    have := h2.lt ad ha
    omega
theorem gone_two {o : OpS} (h : o.kind % 5 = 2) (H : List HintP) : H.filter (fun x => !goneB o x) = H.filter (fun x => !(decide (x.to = o.to) && decide (x.m.at_ = o.e.m.at_))) := by
  congr 1
  funext x
  unfold goneB
  rw [h]
  simp
theorem gone_three {o : OpS} (h : o.kind % 5 = 3) (H : List HintP) : H.filter (fun x => !goneB o x) = H.filter (fun x => !(decide (x.until_ ≤ o.now))) := by
  congr 1
  funext x
  unfold goneB
  rw [h]
  simp
theorem cmpI_selfH (a : Int) : cmpI a a = 0 := by unfold cmpI; simp
theorem cmp3_selfH (s : Int × Int × Int) : cmp3 s s = 0 := by unfold cmp3 cmpS or3; simp [cmpI_selfH]
theorem cmpR_selfH : ∀ l : List (Int × Int × Int), cmpR l l = 0
  | [] => rfl
  | a :: l => by
    show (if cmp3 a a = 0 then cmpR l l else cmp3 a a) = 0
    rw [if_pos (cmp3_selfH a), cmpR_selfH l]
theorem cmpM_selfH (m : Mut) : cmpM m m = 0 := by
  unfold cmpM
  rw [cmp3_selfH, cmpI_selfH, cmpI_selfH, (cmpT_zero _ _).2 rfl, (cmpT_zero _ _).2 rfl, (cmpT_zero _ _).2 rfl, cmpI_selfH, cmpR_selfH]
  rfl
theorem sameM_selfH (M : List Mut) : sameM M M = true := by
  unfold sameM
  rw [decide_eq_true rfl, Bool.true_and, List.all_eq_true]
  intro p hp
  have e : p.1 = p.2 := by
    obtain ⟨i, hi, rfl⟩ := List.mem_iff_getElem.1 hp
    simp
  rw [e, cmpM_selfH]
  rfl

set_option maxRecDepth 100000 in
set_option maxHeartbeats 4000000 in
theorem step_two (gs base : Nat) (v : Value) (A : Option Addr) (n c : Nat) (L1 L2 : List HintS) (o : OpS) (w : World) (h : Both w gs base v A n c L1 L2) (hk : 0 ≤ o.kind ∧ o.kind ≤ 9223372036854775807) (h5 : o.kind % 5 = 2) : Calls Try.prog 8 #[.pointer (some ⟨gs, 0, none⟩), .slice A n c, .agg (opC o)] w (StepE w gs base) := by
  have HBo := Lib.hid h
  obtain ⟨W, hW⟩ : ∃ W, w.alloc (.cells (opC o) 35) = W := ⟨_, rfl⟩
  have bW : Below w.heap.size w W := by rw [← hW]; exact (Below.refl _ _).alloc (Nat.le_refl _) _
  have BO : Blk W w.heap.size 35 (opC o) := by rw [← hW]; exact Blk.new _ _ _
  have HBB := Lib.hid (bW.mono h.lo)
  have hB2 := h.below bW
  have hbW : base ≤ W.heap.size := hB2.lo
  have o0 : W.cell? ⟨w.heap.size, 0, none⟩ = some (.int .i64 o.kind) := BO.cell 0
  have o1 : W.cell? ⟨w.heap.size, 1, none⟩ = some (.int .i64 o.to) := BO.cell 1
  have o2 : W.cell? ⟨w.heap.size, 2, none⟩ = some (.int .i64 o.now) := BO.cell 2
  have o3 : W.cell? ⟨w.heap.size, 3, none⟩ = some (.int .i64 o.e.m.tab) := BO.cell 3
  have o4 : W.cell? ⟨w.heap.size, 4, none⟩ = some (.int .i64 o.e.m.kind) := BO.cell 4
  have o5 : W.cell? ⟨w.heap.size, 5, none⟩ = some (.string o.e.m.key) := BO.cell 5
  have o6 : W.cell? ⟨w.heap.size, 6, none⟩ = some (.string o.e.m.en) := BO.cell 6
  have o7 : W.cell? ⟨w.heap.size, 7, none⟩ = some (.string o.e.m.val) := BO.cell 7
  have o8 : W.cell? ⟨w.heap.size, 8, none⟩ = some (.int .i64 o.e.m.exp) := BO.cell 8
  have o9 : W.cell? ⟨w.heap.size, 9, none⟩ = some (.int .i64 o.e.m.at_.1) := BO.cell 9
  have o10 : W.cell? ⟨w.heap.size, 10, none⟩ = some (.int .i64 o.e.m.at_.2.1) := BO.cell 10
  have o11 : W.cell? ⟨w.heap.size, 11, none⟩ = some (.int .i64 o.e.m.at_.2.2) := BO.cell 11
  have o12 : W.cell? ⟨w.heap.size, 12, none⟩ = some (.slice o.e.A o.e.n o.e.c) := BO.cell 12
  have hlen := hB2.len
  have HBW := Lib.hid hB2
  unfold opC at hW
  clear h
  have d1 : (o.kind % 5 == 2) = true := by simp [h5]
  have HLE := Lib.hid (law28_left A n c L2 o base W hB2.lw hbW (by have := hB2.few; omega) hk (by omega))
  clear hB2
  unfold opC at HLE ⊢
  go_enter Try.func8, Try.ntmps8
  go_wp2_with fail
  clear hW
  refine HLE.out.mono ?_
  clear HLE
  rintro e w1 ⟨A', n', c', L2', rfl, l1, e1, f1, z1, m1, b1⟩
  have st1 := HBW.out.st.below b1
  have HGO := Lib.hid (hint_Gone gs base v L1 o.to o.e.m.at_ w1 st1 (by have := HBW.out.few; omega))
  have BO1 := BO.below b1 BO.lt
  have HL1 := Lib.hid (And.intro l1 (And.intro f1 (And.intro z1 b1)))
  have HE1 : Hid (L2'.map hp = (L1.map hp).filter (fun h => !(decide (h.to = o.to) && decide (h.m.at_ = o.e.m.at_)))) := Lib.hid (by rw [e1, HBW.out.same]; exact gone_two h5 _)
  have hn' : L2'.length = n' := l1.n_eq
  clear o0 o1 o2 o3 o4 o5 o6 o7 o8 o9 o10 o11 o12
  have o0 : w1.cell? ⟨w.heap.size, 0, none⟩ = some (.int .i64 o.kind) := BO1.cell 0
  have o1 : w1.cell? ⟨w.heap.size, 1, none⟩ = some (.int .i64 o.to) := BO1.cell 1
  have o2 : w1.cell? ⟨w.heap.size, 2, none⟩ = some (.int .i64 o.now) := BO1.cell 2
  have o3 : w1.cell? ⟨w.heap.size, 3, none⟩ = some (.int .i64 o.e.m.tab) := BO1.cell 3
  have o4 : w1.cell? ⟨w.heap.size, 4, none⟩ = some (.int .i64 o.e.m.kind) := BO1.cell 4
  have o5 : w1.cell? ⟨w.heap.size, 5, none⟩ = some (.string o.e.m.key) := BO1.cell 5
  have o6 : w1.cell? ⟨w.heap.size, 6, none⟩ = some (.string o.e.m.en) := BO1.cell 6
  have o7 : w1.cell? ⟨w.heap.size, 7, none⟩ = some (.string o.e.m.val) := BO1.cell 7
  have o8 : w1.cell? ⟨w.heap.size, 8, none⟩ = some (.int .i64 o.e.m.exp) := BO1.cell 8
  have o9 : w1.cell? ⟨w.heap.size, 9, none⟩ = some (.int .i64 o.e.m.at_.1) := BO1.cell 9
  have o10 : w1.cell? ⟨w.heap.size, 10, none⟩ = some (.int .i64 o.e.m.at_.2.1) := BO1.cell 10
  have o11 : w1.cell? ⟨w.heap.size, 11, none⟩ = some (.int .i64 o.e.m.at_.2.2) := BO1.cell 11
  have o12 : w1.cell? ⟨w.heap.size, 12, none⟩ = some (.slice o.e.A o.e.n o.e.c) := BO1.cell 12
  clear l1 e1 f1 z1 b1 st1
  go_wp2_with fail
  refine HGO.out.mono ?_
  clear HGO
  rintro e w2 ⟨v', L1', rfl, st2, e2, s2, li2⟩
  have hz2 : L1'.map hp = L2'.map hp := by rw [e2, HE1.out]
  have hlz : L1'.length = n' := by
    have := congrArg List.length hz2
    rw [List.length_map, List.length_map] at this
    omega
  have P := both_of HBW.out HL1.out.2.2.2 HL1.out.1 (.inr HL1.out.2.1) m1.2 HL1.out.2.2.1 (by have := HBW.out.few; have := m1.1; omega) st2 s2 li2 hz2
  have HP := Lib.hid P
  have hcnt : ((L1.length : Int) - L1'.length) = (n : Int) - n' := by omega
  rw [hcnt]
  have hzz : ((n : Int) - n' == (n : Int) - n') = true := by simp
  obtain ⟨z, hz⟩ : ∃ z : Int, (n : Int) - n' = z := ⟨_, rfl⟩
  rw [hz] at hzz ⊢
  clear o0 o1 o2 o3 o4 o5 o6 o7 o8 o9 o10 o11 o12 P hcnt hz st2 e2 s2 li2 hz2 hlz
  go_wp2_with fail
  go_returns
  exact ⟨v', A', n', c', L1', L2', rfl, HP.out.1, HBB.out.trans HP.out.2⟩

set_option maxRecDepth 100000 in
set_option maxHeartbeats 4000000 in
theorem step_three (gs base : Nat) (v : Value) (A : Option Addr) (n c : Nat) (L1 L2 : List HintS) (o : OpS) (w : World) (h : Both w gs base v A n c L1 L2) (hk : 0 ≤ o.kind ∧ o.kind ≤ 9223372036854775807) (h5 : o.kind % 5 = 3) : Calls Try.prog 8 #[.pointer (some ⟨gs, 0, none⟩), .slice A n c, .agg (opC o)] w (StepE w gs base) := by
  have HBo := Lib.hid h
  obtain ⟨W, hW⟩ : ∃ W, w.alloc (.cells (opC o) 35) = W := ⟨_, rfl⟩
  have bW : Below w.heap.size w W := by rw [← hW]; exact (Below.refl _ _).alloc (Nat.le_refl _) _
  have BO : Blk W w.heap.size 35 (opC o) := by rw [← hW]; exact Blk.new _ _ _
  have HBB := Lib.hid (bW.mono h.lo)
  have hB2 := h.below bW
  have hbW : base ≤ W.heap.size := hB2.lo
  have o0 : W.cell? ⟨w.heap.size, 0, none⟩ = some (.int .i64 o.kind) := BO.cell 0
  have o1 : W.cell? ⟨w.heap.size, 1, none⟩ = some (.int .i64 o.to) := BO.cell 1
  have o2 : W.cell? ⟨w.heap.size, 2, none⟩ = some (.int .i64 o.now) := BO.cell 2
  have o3 : W.cell? ⟨w.heap.size, 3, none⟩ = some (.int .i64 o.e.m.tab) := BO.cell 3
  have o4 : W.cell? ⟨w.heap.size, 4, none⟩ = some (.int .i64 o.e.m.kind) := BO.cell 4
  have o5 : W.cell? ⟨w.heap.size, 5, none⟩ = some (.string o.e.m.key) := BO.cell 5
  have o6 : W.cell? ⟨w.heap.size, 6, none⟩ = some (.string o.e.m.en) := BO.cell 6
  have o7 : W.cell? ⟨w.heap.size, 7, none⟩ = some (.string o.e.m.val) := BO.cell 7
  have o8 : W.cell? ⟨w.heap.size, 8, none⟩ = some (.int .i64 o.e.m.exp) := BO.cell 8
  have o9 : W.cell? ⟨w.heap.size, 9, none⟩ = some (.int .i64 o.e.m.at_.1) := BO.cell 9
  have o10 : W.cell? ⟨w.heap.size, 10, none⟩ = some (.int .i64 o.e.m.at_.2.1) := BO.cell 10
  have o11 : W.cell? ⟨w.heap.size, 11, none⟩ = some (.int .i64 o.e.m.at_.2.2) := BO.cell 11
  have o12 : W.cell? ⟨w.heap.size, 12, none⟩ = some (.slice o.e.A o.e.n o.e.c) := BO.cell 12
  have hlen := hB2.len
  have HBW := Lib.hid hB2
  unfold opC at hW
  clear h
  have d1 : (o.kind % 5 == 2) = false := by simp [h5]
  have d2 : (o.kind % 5 == 3) = true := by simp [h5]
  have HLE := Lib.hid (law28_left A n c L2 o base W hB2.lw hbW (by have := hB2.few; omega) hk (by omega))
  clear hB2
  unfold opC at HLE ⊢
  go_enter Try.func8, Try.ntmps8
  go_wp2_with fail
  clear hW
  refine HLE.out.mono ?_
  clear HLE
  rintro e w1 ⟨A', n', c', L2', rfl, l1, e1, f1, z1, m1, b1⟩
  have st1 := HBW.out.st.below b1
  have HGO := Lib.hid (hint_Expire gs base v L1 o.now w1 st1 (by have := HBW.out.few; omega))
  have BO1 := BO.below b1 BO.lt
  have HL1 := Lib.hid (And.intro l1 (And.intro f1 (And.intro z1 b1)))
  have HE1 : Hid (L2'.map hp = (L1.map hp).filter (fun h => !(decide (h.until_ ≤ o.now)))) := Lib.hid (by rw [e1, HBW.out.same]; exact gone_three h5 _)
  have hn' : L2'.length = n' := l1.n_eq
  clear o0 o1 o2 o3 o4 o5 o6 o7 o8 o9 o10 o11 o12
  have o0 : w1.cell? ⟨w.heap.size, 0, none⟩ = some (.int .i64 o.kind) := BO1.cell 0
  have o1 : w1.cell? ⟨w.heap.size, 1, none⟩ = some (.int .i64 o.to) := BO1.cell 1
  have o2 : w1.cell? ⟨w.heap.size, 2, none⟩ = some (.int .i64 o.now) := BO1.cell 2
  have o3 : w1.cell? ⟨w.heap.size, 3, none⟩ = some (.int .i64 o.e.m.tab) := BO1.cell 3
  have o4 : w1.cell? ⟨w.heap.size, 4, none⟩ = some (.int .i64 o.e.m.kind) := BO1.cell 4
  have o5 : w1.cell? ⟨w.heap.size, 5, none⟩ = some (.string o.e.m.key) := BO1.cell 5
  have o6 : w1.cell? ⟨w.heap.size, 6, none⟩ = some (.string o.e.m.en) := BO1.cell 6
  have o7 : w1.cell? ⟨w.heap.size, 7, none⟩ = some (.string o.e.m.val) := BO1.cell 7
  have o8 : w1.cell? ⟨w.heap.size, 8, none⟩ = some (.int .i64 o.e.m.exp) := BO1.cell 8
  have o9 : w1.cell? ⟨w.heap.size, 9, none⟩ = some (.int .i64 o.e.m.at_.1) := BO1.cell 9
  have o10 : w1.cell? ⟨w.heap.size, 10, none⟩ = some (.int .i64 o.e.m.at_.2.1) := BO1.cell 10
  have o11 : w1.cell? ⟨w.heap.size, 11, none⟩ = some (.int .i64 o.e.m.at_.2.2) := BO1.cell 11
  have o12 : w1.cell? ⟨w.heap.size, 12, none⟩ = some (.slice o.e.A o.e.n o.e.c) := BO1.cell 12
  clear l1 e1 f1 z1 b1 st1
  go_wp2_with fail
  refine HGO.out.mono ?_
  clear HGO
  rintro e w2 ⟨v', L1', rfl, st2, e2, s2, li2⟩
  have hz2 : L1'.map hp = L2'.map hp := by rw [e2, HE1.out]
  have hlz : L1'.length = n' := by
    have := congrArg List.length hz2
    rw [List.length_map, List.length_map] at this
    omega
  have P := both_of HBW.out HL1.out.2.2.2 HL1.out.1 (.inr HL1.out.2.1) m1.2 HL1.out.2.2.1 (by have := HBW.out.few; have := m1.1; omega) st2 s2 li2 hz2
  have HP := Lib.hid P
  have hcnt : ((L1.length : Int) - L1'.length) = (n : Int) - n' := by omega
  rw [hcnt]
  have hzz : ((n : Int) - n' == (n : Int) - n') = true := by simp
  obtain ⟨z, hz⟩ : ∃ z : Int, (n : Int) - n' = z := ⟨_, rfl⟩
  rw [hz] at hzz ⊢
  clear o0 o1 o2 o3 o4 o5 o6 o7 o8 o9 o10 o11 o12 P hcnt hz st2 e2 s2 li2 hz2 hlz
  go_wp2_with fail
  go_returns
  exact ⟨v', A', n', c', L1', L2', rfl, HP.out.1, HBB.out.trans HP.out.2⟩

set_option maxRecDepth 100000 in
set_option maxHeartbeats 4000000 in
theorem step_add (gs base : Nat) (v : Value) (A : Option Addr) (n c : Nat) (L1 L2 : List HintS) (o : OpS) (w : World) (h : Both w gs base v A n c L1 L2) (hk : 0 ≤ o.kind ∧ o.kind ≤ 9223372036854775807) (hx5 : ¬ o.kind % 5 = 2 ∧ ¬ o.kind % 5 = 3 ∧ ¬ o.kind % 5 = 4) (ho : Reads w base 3 o.e.A o.e.n (o.e.m.ov.flatMap sc)) (hoz : o.e.n ≤ 1000000000 ∧ (o.e.A = none → o.e.c = 0)) : Calls Try.prog 8 #[.pointer (some ⟨gs, 0, none⟩), .slice A n c, .agg (opC o)] w (StepE w gs base) := by
  have hoB := ho
  have HBo := Lib.hid h
  obtain ⟨W, hW⟩ : ∃ W, w.alloc (.cells (opC o) 35) = W := ⟨_, rfl⟩
  have bW : Below w.heap.size w W := by rw [← hW]; exact (Below.refl _ _).alloc (Nat.le_refl _) _
  have BO : Blk W w.heap.size 35 (opC o) := by rw [← hW]; exact Blk.new _ _ _
  have HBB := Lib.hid (bW.mono h.lo)
  have hB2 := h.below bW
  have hbW : base ≤ W.heap.size := hB2.lo
  have o0 : W.cell? ⟨w.heap.size, 0, none⟩ = some (.int .i64 o.kind) := BO.cell 0
  have o1 : W.cell? ⟨w.heap.size, 1, none⟩ = some (.int .i64 o.to) := BO.cell 1
  have o2 : W.cell? ⟨w.heap.size, 2, none⟩ = some (.int .i64 o.now) := BO.cell 2
  have o3 : W.cell? ⟨w.heap.size, 3, none⟩ = some (.int .i64 o.e.m.tab) := BO.cell 3
  have o4 : W.cell? ⟨w.heap.size, 4, none⟩ = some (.int .i64 o.e.m.kind) := BO.cell 4
  have o5 : W.cell? ⟨w.heap.size, 5, none⟩ = some (.string o.e.m.key) := BO.cell 5
  have o6 : W.cell? ⟨w.heap.size, 6, none⟩ = some (.string o.e.m.en) := BO.cell 6
  have o7 : W.cell? ⟨w.heap.size, 7, none⟩ = some (.string o.e.m.val) := BO.cell 7
  have o8 : W.cell? ⟨w.heap.size, 8, none⟩ = some (.int .i64 o.e.m.exp) := BO.cell 8
  have o9 : W.cell? ⟨w.heap.size, 9, none⟩ = some (.int .i64 o.e.m.at_.1) := BO.cell 9
  have o10 : W.cell? ⟨w.heap.size, 10, none⟩ = some (.int .i64 o.e.m.at_.2.1) := BO.cell 10
  have o11 : W.cell? ⟨w.heap.size, 11, none⟩ = some (.int .i64 o.e.m.at_.2.2) := BO.cell 11
  have o12 : W.cell? ⟨w.heap.size, 12, none⟩ = some (.slice o.e.A o.e.n o.e.c) := BO.cell 12
  have hlen := hB2.len
  have HBW := Lib.hid hB2
  unfold opC at hW
  clear h
  have d1 : (o.kind % 5 == 2) = false := by simp [hx5.1]
  have d2 : (o.kind % 5 == 3) = false := by simp [hx5.2.1]
  have d3 : (o.kind % 5 == 4) = false := by simp [hx5.2.2]
  have HLE := Lib.hid (law28_add A n c L2 o base W hB2.lw hbW (by have := hB2.few; omega) hB2.cap hB2.nil (ho.below (bW.mono HBo.out.lo)) hoz)
  have HO : Hid (Reads W base 3 o.e.A o.e.n (o.e.m.ov.flatMap sc)) := Lib.hid (ho.below (bW.mono HBo.out.lo))
  clear hB2 hx5 ho hoB
  unfold opC at HLE ⊢
  go_enter Try.func8, Try.ntmps8
  go_wp2_with fail
  clear hW
  refine HLE.out.mono ?_
  clear HLE
  rintro e w1 ⟨A', n', c', L2', rfl, l1, e1, f1, z1, m1, b1⟩
  have st1 := HBW.out.st.below b1
  have hs1 := b1.size
  have HGO := Lib.hid (hint_Add gs base v L1 o.to o.now o.e.m o.e.A o.e.n o.e.c w1 st1 ((HO.out.below (b1.mono hbW)).more (by omega)) hoz.2 hoz.1 (by have := HBW.out.few; omega))
  have BO1 := BO.below b1 BO.lt
  have HL1 := Lib.hid (And.intro l1 (And.intro f1 (And.intro z1 (And.intro m1 b1))))
  have hsm := HBW.out.same
  have HE1 := Lib.hid e1
  have hn' : L2'.length = n' := l1.n_eq
  have hn2 : n' ≤ 100 := by
    have h1 := congrArg List.length e1
    rw [List.length_map] at h1
    have h2 := HBW.out.few
    have h3 := HBW.out.lw.n_eq
    unfold addH at h1
    split at h1
    · rename_i h4
      unfold addB at h4
      simp only [Bool.and_eq_true, decide_eq_true_eq] at h4
      rw [List.length_append, List.length_singleton] at h1
      omega
    · rw [List.length_map] at h1
      omega
  obtain ⟨B, hBq⟩ : ∃ B, addB (L2.map hp) o.to o.e.m = B := ⟨_, rfl⟩
  have hBq1 : addB (L1.map hp) o.to o.e.m = B := by rw [hsm]; exact hBq
  rw [hBq]
  clear o0 o1 o2 o3 o4 o5 o6 o7 o8 o9 o10 o11 o12
  have o0 : w1.cell? ⟨w.heap.size, 0, none⟩ = some (.int .i64 o.kind) := BO1.cell 0
  have o1 : w1.cell? ⟨w.heap.size, 1, none⟩ = some (.int .i64 o.to) := BO1.cell 1
  have o2 : w1.cell? ⟨w.heap.size, 2, none⟩ = some (.int .i64 o.now) := BO1.cell 2
  have o3 : w1.cell? ⟨w.heap.size, 3, none⟩ = some (.int .i64 o.e.m.tab) := BO1.cell 3
  have o4 : w1.cell? ⟨w.heap.size, 4, none⟩ = some (.int .i64 o.e.m.kind) := BO1.cell 4
  have o5 : w1.cell? ⟨w.heap.size, 5, none⟩ = some (.string o.e.m.key) := BO1.cell 5
  have o6 : w1.cell? ⟨w.heap.size, 6, none⟩ = some (.string o.e.m.en) := BO1.cell 6
  have o7 : w1.cell? ⟨w.heap.size, 7, none⟩ = some (.string o.e.m.val) := BO1.cell 7
  have o8 : w1.cell? ⟨w.heap.size, 8, none⟩ = some (.int .i64 o.e.m.exp) := BO1.cell 8
  have o9 : w1.cell? ⟨w.heap.size, 9, none⟩ = some (.int .i64 o.e.m.at_.1) := BO1.cell 9
  have o10 : w1.cell? ⟨w.heap.size, 10, none⟩ = some (.int .i64 o.e.m.at_.2.1) := BO1.cell 10
  have o11 : w1.cell? ⟨w.heap.size, 11, none⟩ = some (.int .i64 o.e.m.at_.2.2) := BO1.cell 11
  have o12 : w1.cell? ⟨w.heap.size, 12, none⟩ = some (.slice o.e.A o.e.n o.e.c) := BO1.cell 12
  clear l1 e1 f1 z1 m1 b1 st1 hsm hBq
  unfold mutC at HGO
  go_wp2_with fail
  refine HGO.out.mono ?_
  clear HGO
  rintro e w2 ⟨v', L1', rfl, st2, e2, s2, li2⟩
  have hz2 : L1'.map hp = L2'.map hp := by rw [e2, HE1.out, HBW.out.same]
  have P := both_of HBW.out HL1.out.2.2.2.2 HL1.out.1 HL1.out.2.1 HL1.out.2.2.2.1 HL1.out.2.2.1 hn2 st2 s2 li2 hz2
  have HP := Lib.hid P
  rw [hBq1]
  have hzz : (B == B) = true := by simp
  clear o0 o1 o2 o3 o4 o5 o6 o7 o8 o9 o10 o11 o12 P st2 e2 s2 li2 hz2
  go_wp2_with fail
  go_returns
  exact ⟨v', A', n', c', L1', L2', rfl, HP.out.1, HBB.out.trans HP.out.2⟩

def forS (to : Int) (L : List HintS) : List MutS := (L.filter fun x => decide (x.to = to)).map fun x => x.e
theorem forS_m (to : Int) (L : List HintS) : (forS to L).map (·.m) = forP to L := by
  unfold forS forP
  rw [List.map_map]
  rfl

set_option maxRecDepth 100000 in
set_option maxHeartbeats 4000000 in
theorem step_four (gs base : Nat) (v : Value) (A : Option Addr) (n c : Nat) (L1 L2 : List HintS) (o : OpS) (w : World) (h : Both w gs base v A n c L1 L2) (hk : 0 ≤ o.kind ∧ o.kind ≤ 9223372036854775807) (h5 : o.kind % 5 = 4) : Calls Try.prog 8 #[.pointer (some ⟨gs, 0, none⟩), .slice A n c, .agg (opC o)] w (StepE w gs base) := by
  have HBo := Lib.hid h
  obtain ⟨W, hW⟩ : ∃ W, w.alloc (.cells (opC o) 35) = W := ⟨_, rfl⟩
  have bW : Below w.heap.size w W := by rw [← hW]; exact (Below.refl _ _).alloc (Nat.le_refl _) _
  have BO : Blk W w.heap.size 35 (opC o) := by rw [← hW]; exact Blk.new _ _ _
  have HBB := Lib.hid (bW.mono h.lo)
  have hB2 := h.below bW
  have hbW : base ≤ W.heap.size := hB2.lo
  have o0 : W.cell? ⟨w.heap.size, 0, none⟩ = some (.int .i64 o.kind) := BO.cell 0
  have o1 : W.cell? ⟨w.heap.size, 1, none⟩ = some (.int .i64 o.to) := BO.cell 1
  have o2 : W.cell? ⟨w.heap.size, 2, none⟩ = some (.int .i64 o.now) := BO.cell 2
  have o3 : W.cell? ⟨w.heap.size, 3, none⟩ = some (.int .i64 o.e.m.tab) := BO.cell 3
  have o4 : W.cell? ⟨w.heap.size, 4, none⟩ = some (.int .i64 o.e.m.kind) := BO.cell 4
  have o5 : W.cell? ⟨w.heap.size, 5, none⟩ = some (.string o.e.m.key) := BO.cell 5
  have o6 : W.cell? ⟨w.heap.size, 6, none⟩ = some (.string o.e.m.en) := BO.cell 6
  have o7 : W.cell? ⟨w.heap.size, 7, none⟩ = some (.string o.e.m.val) := BO.cell 7
  have o8 : W.cell? ⟨w.heap.size, 8, none⟩ = some (.int .i64 o.e.m.exp) := BO.cell 8
  have o9 : W.cell? ⟨w.heap.size, 9, none⟩ = some (.int .i64 o.e.m.at_.1) := BO.cell 9
  have o10 : W.cell? ⟨w.heap.size, 10, none⟩ = some (.int .i64 o.e.m.at_.2.1) := BO.cell 10
  have o11 : W.cell? ⟨w.heap.size, 11, none⟩ = some (.int .i64 o.e.m.at_.2.2) := BO.cell 11
  have o12 : W.cell? ⟨w.heap.size, 12, none⟩ = some (.slice o.e.A o.e.n o.e.c) := BO.cell 12
  have hlen := hB2.len
  have HBW := Lib.hid hB2
  unfold opC at hW
  clear h
  have d1 : (o.kind % 5 == 2) = false := by simp [h5]
  have d2 : (o.kind % 5 == 3) = false := by simp [h5]
  have d3 : (o.kind % 5 == 4) = true := by simp [h5]
  have hnl := hB2.lw.n_eq
  have HNL := Lib.hid hnl
  have hfew : n ≤ 100 := hB2.few
  have OW : W.ownsRow W.heap.size 33 10 (.slice none 0 0) 0 ((forS o.to (L2.take 0)).flatMap mutL) := World.ownsRow_nil _ _ _ _
  clear hB2 hnl h5
  unfold opC
  go_enter Try.func8, Try.ntmps8
  go_wp2_with fail
  clear hW o0 o1 o2 o3 o4 o5 o6 o7 o8 o9 o10 o11 o12
  go_loopw [12, 13] (fun v12 v13 wr => ∃ (k d : Nat), v13 = .int .i64 k ∧ k ≤ n ∧ (forS o.to (L2.take k)).length = d ∧ d ≤ k ∧ wr.ownsRow W.heap.size 33 10 v12 d ((forS o.to (L2.take k)).flatMap mutL) ∧ Below W.heap.size W wr) (fun _ v13 _ => n - (intOf v13).toNat)
  case atStart => exact ⟨0, 0, rfl, Nat.zero_le _, rfl, Nat.le_refl _, OW, Below.refl _ _⟩
  case round =>
    clear OW
    obtain ⟨k, d, rfl, hkn, hdl, hdk, hO, hB⟩ := hrel
    have HO := Lib.hid hO
    have HDL := Lib.hid hdl
    clear hO hdl
    by_cases hlt : k < n
    · have hkl : k < L2.length := by have := HNL.out; omega
      have hl0 := HBW.out.lw.below hB hbW
      obtain ⟨b, off, hA, hbb, hc⟩ := hint_at hl0.rd hkl
      subst hA
      have BO1 := BO.below hB BO.lt
      have hnx : forS o.to (L2.take (k + 1)) = forS o.to (L2.take k) ++ (if L2[k].to = o.to then [L2[k].e] else []) := by
        unfold forS
        rw [List.take_succ_eq_append_getElem hkl, List.filter_append, List.map_append]
        by_cases h : L2[k].to = o.to <;> simp [h]
      obtain ⟨x, hx⟩ : ∃ x, L2[k]'hkl = x := ⟨_, rfl⟩
      rw [hx] at hc hnx
      have HNX := Lib.hid hnx
      have q0 : wr.cell? ⟨b, off + k * 12, none⟩ = some (.int .i64 x.to) := hc 0 _ (by decide) rfl
      have q1 : wr.cell? ⟨b, off + k * 12 + 1, none⟩ = some (.int .i64 x.until_) := hc 1 _ (by decide) rfl
      have q2 : wr.cell? ⟨b, off + k * 12 + 2, none⟩ = some (.int .i64 x.e.m.tab) := hc 2 _ (by decide) rfl
      have q3 : wr.cell? ⟨b, off + k * 12 + 3, none⟩ = some (.int .i64 x.e.m.kind) := hc 3 _ (by decide) rfl
      have q4 : wr.cell? ⟨b, off + k * 12 + 4, none⟩ = some (.string x.e.m.key) := hc 4 _ (by decide) rfl
      have q5 : wr.cell? ⟨b, off + k * 12 + 5, none⟩ = some (.string x.e.m.en) := hc 5 _ (by decide) rfl
      have q6 : wr.cell? ⟨b, off + k * 12 + 6, none⟩ = some (.string x.e.m.val) := hc 6 _ (by decide) rfl
      have q7 : wr.cell? ⟨b, off + k * 12 + 7, none⟩ = some (.int .i64 x.e.m.exp) := hc 7 _ (by decide) rfl
      have q8 : wr.cell? ⟨b, off + k * 12 + 8, none⟩ = some (.int .i64 x.e.m.at_.1) := hc 8 _ (by decide) rfl
      have q9 : wr.cell? ⟨b, off + k * 12 + 9, none⟩ = some (.int .i64 x.e.m.at_.2.1) := hc 9 _ (by decide) rfl
      have q10 : wr.cell? ⟨b, off + k * 12 + 10, none⟩ = some (.int .i64 x.e.m.at_.2.2) := hc 10 _ (by decide) rfl
      have q11 : wr.cell? ⟨b, off + k * 12 + 11, none⟩ = some (.slice x.e.A x.e.n x.e.c) := hc 11 _ (by decide) rfl
      have o1 : wr.cell? ⟨w.heap.size, 1, none⟩ = some (.int .i64 o.to) := BO1.cell 1
      clear hc hx hnx hl0
      by_cases hto : x.to = o.to
      · have e1 : (x.to == o.to) = true := by simp [hto]
        have HX : Hid (forS o.to (L2.take (k + 1)) = forS o.to (L2.take k) ++ [x.e]) := Lib.hid (by rw [HNX.out, if_pos hto])
        clear hto
        go_upto_region 13 with fail
        go_region
        obtain ⟨wd, hwd⟩ : ∃ wd, wr.drew = wd := ⟨_, rfl⟩
        have hOd : wd.ownsRow W.heap.size 33 10 u12 d ((forS o.to (L2.take k)).flatMap mutL) := by rw [← hwd]; exact own_below HO.out ((Below.refl _ _).drew)
        have hBd : Below W.heap.size W wd := by rw [← hwd]; exact below_drewN hB 1
        have r0 : wd.cell? ⟨b, off + k * 12, none⟩ = some (.int .i64 x.to) := by rw [← hwd]; exact q0
        have r1 : wd.cell? ⟨b, off + k * 12 + 1, none⟩ = some (.int .i64 x.until_) := by rw [← hwd]; exact q1
        have r2 : wd.cell? ⟨b, off + k * 12 + 2, none⟩ = some (.int .i64 x.e.m.tab) := by rw [← hwd]; exact q2
        have r3 : wd.cell? ⟨b, off + k * 12 + 3, none⟩ = some (.int .i64 x.e.m.kind) := by rw [← hwd]; exact q3
        have r4 : wd.cell? ⟨b, off + k * 12 + 4, none⟩ = some (.string x.e.m.key) := by rw [← hwd]; exact q4
        have r5 : wd.cell? ⟨b, off + k * 12 + 5, none⟩ = some (.string x.e.m.en) := by rw [← hwd]; exact q5
        have r6 : wd.cell? ⟨b, off + k * 12 + 6, none⟩ = some (.string x.e.m.val) := by rw [← hwd]; exact q6
        have r7 : wd.cell? ⟨b, off + k * 12 + 7, none⟩ = some (.int .i64 x.e.m.exp) := by rw [← hwd]; exact q7
        have r8 : wd.cell? ⟨b, off + k * 12 + 8, none⟩ = some (.int .i64 x.e.m.at_.1) := by rw [← hwd]; exact q8
        have r9 : wd.cell? ⟨b, off + k * 12 + 9, none⟩ = some (.int .i64 x.e.m.at_.2.1) := by rw [← hwd]; exact q9
        have r10 : wd.cell? ⟨b, off + k * 12 + 10, none⟩ = some (.int .i64 x.e.m.at_.2.2) := by rw [← hwd]; exact q10
        have r11 : wd.cell? ⟨b, off + k * 12 + 11, none⟩ = some (.slice x.e.A x.e.n x.e.c) := by rw [← hwd]; exact q11
        rw [hwd]
        have HOd := Lib.hid hOd
        have hsd := hBd.size
        have hnl : (mutL x.e).length = 10 := rfl
        clear hOd HO o1 BO1 hB q0 q1 q2 q3 q4 q5 q6 q7 q8 q9 q10 q11
        go_wp2_with (at_builtin; go_must (refine append_elem wd _ (mutL x.e) rfl _ rfl _ _ 40 rfl W.heap.size 33 _ 10 120 Try.underlying40 info_mut rfl (by decide) u12 d _ rfl HOd.out rfl (by intro u hu; simp only [mutL, List.mem_cons, List.mem_nil_iff, or_false] at hu; rcases hu with rfl | rfl | rfl | rfl | rfl | rfl | rfl | rfl | rfl | rfl <;> rfl) rfl (by unfold maxLen; omega) (by omega) hsd ?_); intro v7 w7 O7 G7 L7)
        go_roundw
        case rel =>
          refine ⟨k + 1, d + 1, by go_num, by omega, by rw [HX.out, List.length_append, HDL.out]; rfl, by omega, by rw [HX.out, List.flatMap_append]; simpa using O7, ?_⟩
          exact Below.grown hBd G7 hsd (fun q hq => (World.ownsRow.lt HOd.out _ hq).1)
        case measure => simp [intOf]; omega
      · have e1 : (x.to == o.to) = false := by simp [hto]
        have HX : Hid (forS o.to (L2.take (k + 1)) = forS o.to (L2.take k)) := Lib.hid (by rw [HNX.out, if_neg hto, List.append_nil])
        clear hto
        go_upto_region 13 with fail
        go_region
        clear q0 q1 q2 q3 q4 q5 q6 q7 q8 q9 q10 q11
        go_wp2_with fail
        go_roundw
        case rel => exact ⟨k + 1, d, by go_num, by omega, by rw [HX.out]; exact HDL.out, by omega, by rw [HX.out]; exact own_below HO.out ((Below.refl _ _).drew), below_drewN hB 1⟩
        case measure => simp [intOf]; omega
    · have hb2 := HBW.out.below hB
      have HB2 := Lib.hid hb2
      have BO1 := BO.below hB BO.lt
      have o1 : wr.cell? ⟨w.heap.size, 1, none⟩ = some (.int .i64 o.to) := BO1.cell 1
      have HF := Lib.hid (hint_For gs base v L1 o.to wr hb2.st (by have := hb2.few; omega))
      have htk : L2.take k = L2 := List.take_of_length_le (by have := HNL.out; omega)
      rw [htk] at HO HDL
      obtain ⟨A6, c6, rfl, -, hz6, -⟩ := own_form HO.out
      have hrd : RdM wr A6 d (forP o.to L2) := by
        refine ⟨forS o.to L2, forS_m _ _, Reads.of_own HO.out, fun e he => ?_, fun e he => ?_⟩
        · obtain ⟨x, hx, rfl⟩ := List.mem_map.1 he
          exact ⟨(hb2.lw.el x (List.mem_filter.1 hx).1).more hb2.lo, fun _ _ h => by cases h⟩
        · obtain ⟨x, hx, rfl⟩ := List.mem_map.1 he
          exact hb2.lw.ok x (List.mem_filter.1 hx).1
      have HRD := Lib.hid hrd
      have hfp : forP o.to L1 = forP o.to L2 := by rw [forP_of, forP_of, hb2.same]
      have HFP := Lib.hid hfp
      clear hb2 htk hrd hfp HO HDL
      go_wp2_with fail
      refine HF.out.mono ?_
      clear HF
      rintro e w3 ⟨v3, rfl, o3, b3⟩
      obtain ⟨A3, c3, rfl, -, -, r3⟩ := o3.rd
      have hl3 : (forP o.to L1).length ≤ 100 := by have := forP_len o.to L1; have := HB2.out.few; omega
      have r6 := HRD.out.below b3
      have HS := Lib.hid (ref07_Same A3 A6 (forP o.to L1).length c3 d c6 _ _ w3 r3 r6 (by omega))
      rw [HFP.out, sameM_selfH] at HS
      have HB3 := Lib.hid (HB2.out.below b3)
      have hB3 := (hB.mono hbW).trans (b3.mono (Nat.le_trans hbW hB.size))
      rw [HFP.out]
      obtain ⟨m, hm⟩ : ∃ m, (forP o.to L2).length = m := ⟨_, rfl⟩
      rw [hm] at HS ⊢
      clear o3 r3 r6 hm hl3 o1 BO1
      go_wp2_with fail
      refine HS.out.mono ?_
      clear HS
      rintro e w4 ⟨rfl, b4⟩
      go_wp2_with fail
      go_returns
      exact ⟨v, A, n, c, L1, L2, rfl, HB3.out.below b4, (HBB.out.trans hB3).trans (b4.mono (HB3.out.lo))⟩

/-- A step: both tell the same ahead of it, and behind it. -/
theorem law28_step (gs base : Nat) (v : Value) (A : Option Addr) (n c : Nat) (L1 L2 : List HintS) (o : OpS) (w : World) (h : Both w gs base v A n c L1 L2) (hk : 0 ≤ o.kind ∧ o.kind ≤ 9223372036854775807) (ho : Reads w base 3 o.e.A o.e.n (o.e.m.ov.flatMap sc)) (hoz : o.e.n ≤ 1000000000 ∧ (o.e.A = none → o.e.c = 0)) : Calls Try.prog 8 #[.pointer (some ⟨gs, 0, none⟩), .slice A n c, .agg (opC o)] w (StepE w gs base) := by
  by_cases h2 : o.kind % 5 = 2
  · exact step_two gs base v A n c L1 L2 o w h hk h2
  by_cases h3 : o.kind % 5 = 3
  · exact step_three gs base v A n c L1 L2 o w h hk h3
  by_cases h4 : o.kind % 5 = 4
  · exact step_four gs base v A n c L1 L2 o w h hk h4
  exact step_add gs base v A n c L1 L2 o w h hk ⟨h2, h3, h4⟩ ho hoz

end Go.Proofs.Ytfkooohnaodjmaa
