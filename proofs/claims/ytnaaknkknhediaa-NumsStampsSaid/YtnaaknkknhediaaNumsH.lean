/- Contract of the reference's ReadStamp. The text is at most 10^6 bytes long. -/
import Derived.Test.YtnaaknkknhediaaNumsG
import Derived.Test.YtnaaknkknhediaaBytesA
namespace Go.Proofs.Ytnaaknkknhediaa
open Go.RowKit Go.Sort

/-- What the reference's ReadStamp hands back: whether there is a stamp, and it, where there is one. -/
def RefStamp (o : Option (Nat × Nat × Nat)) (e : Ending) : Prop :=
  ∃ x y z : Int, e = .returned (.tuple #[.agg #[.int .i64 x, .int .i64 y, .int .i64 z], .bool o.isSome]) ∧ ∀ a b c, o = some (a, b, c) → x = a ∧ y = b ∧ z = c
theorem refStamp_none (x y z : Int) {o : Option (Nat × Nat × Nat)} (h : o = none) : RefStamp o (.returned (.tuple #[.agg #[.int .i64 x, .int .i64 y, .int .i64 z], .bool false])) := by
  subst h
  exact ⟨x, y, z, rfl, fun _ _ _ h => by cases h⟩
theorem refStamp_some (x y z : Nat) {o : Option (Nat × Nat × Nat)} (h : o = some (x, y, z)) : RefStamp o (.returned (.tuple #[.agg #[.int .i64 x, .int .i64 y, .int .i64 z], .bool true])) := by
  subst h
  exact ⟨x, y, z, rfl, fun a b c h => by injection h with h; injection h with h1 h2; injection h2 with h2 h3; omega⟩

theorem refRead_some (a : List UInt8) (x : Nat) (h : rd a = some x) (hl : a.length ≤ 4000000) (w : World) : Calls Try.prog 19 #[.string ⟨a.toArray⟩] w fun e w' => e = .returned (.tuple #[.int .i64 x, .bool true]) ∧ w = w' :=
  (ref02_Read ⟨a.toArray⟩ w (by simp [ByteArray.size]; omega)).mono fun e _ ⟨hw, m, he, hm⟩ => ⟨by
    have h2 := hm x h
    subst h2
    rw [he]
    show _ = Ending.returned (.tuple #[.int .i64 _, .bool true])
    have : (rd (⟨a.toArray⟩ : ByteArray).data.toList) = some x := h
    rw [this]
    rfl, hw⟩
theorem refRead_none (a : List UInt8) (h : rd a = none) (hl : a.length ≤ 4000000) (w : World) : Calls Try.prog 19 #[.string ⟨a.toArray⟩] w fun e w' => (∃ m : Int, e = .returned (.tuple #[.int .i64 m, .bool false])) ∧ w = w' :=
  (ref02_Read ⟨a.toArray⟩ w (by simp [ByteArray.size]; omega)).mono fun e _ ⟨hw, m, he, _⟩ => ⟨⟨m, by
    rw [he]
    have : (rd (⟨a.toArray⟩ : ByteArray).data.toList) = none := h
    rw [this]
    rfl⟩, hw⟩
/-- Both at once: a number, and whether it is one. -/
theorem refRead_any (a : List UInt8) (hl : a.length ≤ 4000000) : ∃ o : Bool, (∀ w, Calls Try.prog 19 #[.string ⟨a.toArray⟩] w fun e w' => (∃ m : Int, e = .returned (.tuple #[.int .i64 m, .bool o]) ∧ (o = true → ∃ n : Nat, rd a = some n ∧ m = n)) ∧ w = w') ∧ (o = false → rd a = none) := by
  cases h : rd a with
  | none => exact ⟨false, fun w => (refRead_none a h hl w).mono fun _ _ ⟨⟨m, he⟩, hw⟩ => ⟨⟨m, he, fun h => by cases h⟩, hw⟩, fun _ => rfl⟩
  | some n => exact ⟨true, fun w => (refRead_some a n h hl w).mono fun _ _ ⟨he, hw⟩ => ⟨⟨n, he, fun _ => ⟨n, rfl, rfl⟩⟩, hw⟩, fun h => by cases h⟩

set_option maxRecDepth 100000 in
set_option maxHeartbeats 1000000 in
theorem ref02_ReadStamp (s : ByteArray) (w : World) (hs : s.size ≤ 1000000) :
    Calls Try.prog 37 #[.string s] w fun e w' => RefStamp (rdS (bl s)) e ∧ Below w.heap.size w w' := by
  have hC := fun w => ref02_parts s w hs
  have hps := parts_size (bl s)
  rw [bl_length] at hps
  obtain ⟨o, ho⟩ : ∃ o, rdS (bl s) = o := ⟨_, rfl⟩
  rw [ho]
  obtain ⟨P, hP⟩ : ∃ P, parts (bl s) = P := ⟨_, rfl⟩
  have HP := Lib.hid hP
  have HO := Lib.hid ho
  rw [hP] at hC hps
  obtain ⟨hps, hpl⟩ := hps
  have HC := Lib.hid hC
  have HPS := Lib.hid hps
  clear hP ho hC hps
  go_enter Try.func37, Try.ntmps37
  go_wp2_with fail
  have B0 := Blk.new w 51 #[.int .i64 0, .int .i64 0, .int .i64 0]
  have hB : Below w.heap.size w (w.alloc (.cells #[.int .i64 0, .int .i64 0, .int .i64 0] 51)) := (Below.refl _ _).alloc (Nat.le_refl _) _
  generalize w.alloc (.cells #[.int .i64 0, .int .i64 0, .int .i64 0] 51) = W at *
  refine (HC.out W).mono ?_
  rintro e w1 ⟨v1, rfl, OV, b1⟩
  replace B0 := B0.below b1 B0.lt
  replace hB := hB.trans (b1.mono hB.size)
  clear b1 HC
  obtain ⟨A, c, rfl, hc, hA, hr⟩ := OV.reads
  clear OV
  have fin : ∀ x y z : Int, Below w.heap.size w (((w1.setCell ⟨w.heap.size, 0, none⟩ (.int .i64 x)).setCell ⟨w.heap.size, 1, none⟩ (.int .i64 y)).setCell ⟨w.heap.size, 2, none⟩ (.int .i64 z)) := fun x y z =>
    ((hB.setCell (p := ⟨w.heap.size, 0, none⟩) (by simp) _).setCell (p := ⟨w.heap.size, 1, none⟩) (by simp) _).setCell (p := ⟨w.heap.size, 2, none⟩) (by simp) _
  have HFin := Lib.hid fin
  clear fin hB
  by_cases h3 : P.length = 3
  · match P, h3 with
    | [p0, p1, p2], _ =>
    obtain ⟨b, off, rfl, _, hcell⟩ := Reads.form hr (by simp)
    have q0 := hcell 0 (sv p0) rfl
    have q1 := hcell 1 (sv p1) rfl
    have q2 := hcell 2 (sv p2) rfl
    rw [Nat.add_zero] at q0
    unfold sv at q0 q1 q2
    have hS : o = all3 p0 p1 p2 := by rw [← HO.out]; unfold rdS; rw [HP.out]
    obtain ⟨o0, k0, n0⟩ := refRead_any p0 (by have := HPS.out p0 (by simp); omega)
    obtain ⟨o1, k1, n1⟩ := refRead_any p1 (by have := HPS.out p1 (by simp); omega)
    obtain ⟨o2, k2, n2⟩ := refRead_any p2 (by have := HPS.out p2 (by simp); omega)
    have H0 := Lib.hid k0
    have H1 := Lib.hid k1
    have H2 := Lib.hid k2
    have N0 := Lib.hid n0
    have N1 := Lib.hid n1
    have N2 := Lib.hid n2
    have HS := Lib.hid hS
    clear k0 k1 k2 hcell hr hA hS n0 n1 n2
    go_wp2_with fail
    refine (H0.out _).mono ?_
    rintro e w2 ⟨⟨m0, rfl, e0⟩, rfl⟩
    have E0 := Lib.hid e0
    clear e0
    go_wp2_with fail
    refine (H1.out _).mono ?_
    rintro e w2 ⟨⟨m1, rfl, e1⟩, rfl⟩
    have E1 := Lib.hid e1
    clear e1
    go_wp2_with fail
    refine (H2.out _).mono ?_
    rintro e w2 ⟨⟨m2, rfl, e2⟩, rfl⟩
    have E2 := Lib.hid e2
    clear e2
    have c0 := B0.cell
    have f0 := B0.frozen
    have zz := (((B0.set_ 0 (.int .i64 m0)).set_ 1 (.int .i64 m1)).set_ 2 (.int .i64 m2)).cell
    simp at zz
    cases o0 with
    | false =>
      go_wp2_with fail
      (try simp only [Exit.inBlock, Exit.then])
      refine bodyPost_ret (v := .tuple #[.agg #[.int .i64 m0, .int .i64 m1, .int .i64 m2], .bool false]) (by simp [results, Try.results37, go_sem, zz]) rfl ⟨refStamp_none _ _ _ (by rw [HS.out]; exact all3_none (.inl (N0.out (by first | rfl | trivial)))), HFin.out _ _ _⟩
    | true =>
      cases o1 with
      | false =>
        go_wp2_with fail
        (try simp only [Exit.inBlock, Exit.then])
        refine bodyPost_ret (v := .tuple #[.agg #[.int .i64 m0, .int .i64 m1, .int .i64 m2], .bool false]) (by simp [results, Try.results37, go_sem, zz]) rfl ⟨refStamp_none _ _ _ (by rw [HS.out]; exact all3_none (.inr (.inl (N1.out (by first | rfl | trivial))))), HFin.out _ _ _⟩
      | true =>
        cases o2 with
        | false =>
          go_wp2_with fail
          (try simp only [Exit.inBlock, Exit.then])
          refine bodyPost_ret (v := .tuple #[.agg #[.int .i64 m0, .int .i64 m1, .int .i64 m2], .bool false]) (by simp [results, Try.results37, go_sem, zz]) rfl ⟨refStamp_none _ _ _ (by rw [HS.out]; exact all3_none (.inr (.inr (N2.out (by first | rfl | trivial))))), HFin.out _ _ _⟩
        | true =>
          obtain ⟨a0, r0, rfl⟩ := E0.out (by first | rfl | trivial)
          obtain ⟨a1, r1, rfl⟩ := E1.out (by first | rfl | trivial)
          obtain ⟨a2, r2, rfl⟩ := E2.out (by first | rfl | trivial)
          have HSS := Lib.hid (all3_some r0 r1 r2)
          clear r0 r1 r2
          go_wp2_with fail
          (try simp only [Exit.inBlock, Exit.then])
          refine bodyPost_ret (v := .tuple #[.agg #[.int .i64 a0, .int .i64 a1, .int .i64 a2], .bool true]) (by simp [results, Try.results37, go_sem, zz]) rfl ⟨refStamp_some _ _ _ (by rw [HS.out, HSS.out]), HFin.out _ _ _⟩
  · have hne : ((P.length : Int) != 3) = true := by simp; omega
    have hn : o = none := by rw [← HO.out]; exact rdS_len (by rw [HP.out]; exact h3)
    have HN := Lib.hid hn
    have c0 := B0.cell
    have f0 := B0.frozen
    have zz := (((B0.set_ 0 (.int .i64 0)).set_ 1 (.int .i64 0)).set_ 2 (.int .i64 0)).cell
    simp at zz
    clear hn hr hA h3
    go_wp2_with fail
    (try simp only [Exit.inBlock, Exit.then])
    refine bodyPost_ret (v := .tuple #[.agg #[.int .i64 0, .int .i64 0, .int .i64 0], .bool false]) (by simp [results, Try.results37, go_sem, zz]) rfl ⟨refStamp_none _ _ _ HN.out, HFin.out _ _ _⟩
end Go.Proofs.Ytnaaknkknhediaa
