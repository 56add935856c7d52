/- Contracts of step.bare and of the reference's has and bare. -/
import Derived.Test.YtimmfcbpdnlfjaaDoorStpA
namespace Go.Proofs.YtimmfcbpdnlfjaaDoor
open Go.RowKit Go.Sort
set_option linter.unusedVariables false

theorem bare_nil (s : Stp) : stpC (bareS s []) = #[.int .i64 s.kind, .int .i64 0, .int .i64 0, .int .i64 0, .int .i64 0, .string ⟨#[]⟩, .string ⟨#[]⟩, .string ⟨#[]⟩, .int .i64 (-1)] := rfl

theorem bare_snoc_n (s : Stp) (l : List Pt) : stpC (bareS s (l ++ [.n])) = (stpC (bareS s l)).setIfInBounds 1 (.int .i64 s.n) := by
  simp [stpC, bareS]
theorem bare_snoc_t (s : Stp) (l : List Pt) : stpC (bareS s (l ++ [.t])) = (stpC (bareS s l)).setIfInBounds 2 (.int .i64 s.ticks) := by
  simp [stpC, bareS]
theorem bare_snoc_c (s : Stp) (l : List Pt) : stpC (bareS s (l ++ [.c])) = (stpC (bareS s l)).setIfInBounds 8 (.int .i64 s.ctx) := by
  simp [stpC, bareS]
theorem bare_snoc_a (s : Stp) (l : List Pt) : stpC (bareS s (l ++ [.a])) = (stpC (bareS s l)).setIfInBounds 3 (.int .i64 s.tab) := by
  simp [stpC, bareS]
theorem bare_snoc_l (s : Stp) (l : List Pt) : stpC (bareS s (l ++ [.l])) = (stpC (bareS s l)).setIfInBounds 4 (.int .i64 s.lev) := by
  simp [stpC, bareS]
theorem bare_snoc_k (s : Stp) (l : List Pt) : stpC (bareS s (l ++ [.k])) = (stpC (bareS s l)).setIfInBounds 5 (.string s.key) := by
  simp [stpC, bareS]
theorem bare_snoc_e (s : Stp) (l : List Pt) : stpC (bareS s (l ++ [.e])) = (stpC (bareS s l)).setIfInBounds 6 (.string s.en) := by
  simp [stpC, bareS]
theorem bare_snoc_v (s : Stp) (l : List Pt) : stpC (bareS s (l ++ [.v])) = (stpC (bareS s l)).setIfInBounds 7 (.string s.val) := by
  simp [stpC, bareS]
theorem parts_size (ps : List Pt) (f : Pt → UInt8) : (⟨(ps.map f).toArray⟩ : ByteArray).size = ps.length := by
  show (ps.map f).toArray.size = _
  simp
theorem parts_get (ps : List Pt) (f : Pt → UInt8) (k : Nat) (hk : k < ps.length) : (⟨(ps.map f).toArray⟩ : ByteArray)[k]'(by rw [parts_size]; exact hk) = f ps[k] := by
  show (ps.map f).toArray[k]'(by simp [hk]) = _
  simp
theorem codeP_lo (p : Pt) : (codeP p).toNat < 128 := by cases p <;> decide
/-- What the loop of bare keeps. -/
structure BareI (s : Stp) (ps : List Pt) (w : World) (k : Nat) (wr : World) : Prop where
  it : It wr (w.heap.size + 3) ⟨(ps.map codeP).toArray⟩ k
  b0 : Blk wr w.heap.size 26 (stpC s)
  b1 : Blk wr (w.heap.size + 1) 26 #[.int .i64 0, .int .i64 0, .int .i64 0, .int .i64 0, .int .i64 0, .string ⟨#[]⟩, .string ⟨#[]⟩, .string ⟨#[]⟩, .int .i64 0]
  b2 : Blk wr (w.heap.size + 2) 26 (stpC (bareS s (ps.take k)))
  be : Below w.heap.size w wr

theorem BareI.next {s : Stp} {ps : List Pt} {w : World} {k : Nat} {wr : World} (h : BareI s ps w k wr) {i : Nat} {v : Value} (he : stpC (bareS s (ps.take (k + 1))) = (stpC (bareS s (ps.take k))).setIfInBounds i v) :
    BareI s ps w (k + 1) ((wr.iterAt (w.heap.size + 3) ⟨(ps.map codeP).toArray⟩ (k + 1)).setCell ⟨w.heap.size + 2, i, none⟩ v) := by
  refine ⟨(h.it.at_ (k + 1)).far (by show w.heap.size + 3 ≠ w.heap.size + 2; omega) v, (h.b0.iterAt (h.it.ne h.b0) _ _).far (p := ⟨w.heap.size + 2, i, none⟩) (by show w.heap.size ≠ w.heap.size + 2; omega) v, (h.b1.iterAt (h.it.ne h.b1) _ _).far (p := ⟨w.heap.size + 2, i, none⟩) (by show w.heap.size + 1 ≠ w.heap.size + 2; omega) v, ?_, ?_⟩
  · rw [he]
    exact (h.b2.iterAt (h.it.ne h.b2) _ _).set_ i v
  · exact (Lib.below_iterAt h.be (k := w.heap.size + 3) (by omega) ⟨(ps.map codeP).toArray⟩ (k + 1)).setCell (p := ⟨w.heap.size + 2, i, none⟩) (by show w.heap.size ≤ w.heap.size + 2; omega) v

set_option maxRecDepth 100000 in
set_option maxHeartbeats 8000000 in
theorem step_bare (s : Stp) (w : World) : Calls Tryd.prog 24 #[.agg (stpC s)] w fun e w' => e = .returned (.agg (stpC (bareS s (formP s.kind).2))) ∧ Below w.heap.size w w' := by
  have CF := Lib.hid (fun W => step_form s.kind W)
  obtain ⟨ps, hps⟩ : ∃ ps, (formP s.kind).2 = ps := ⟨_, rfl⟩
  obtain ⟨wd, hwd⟩ : ∃ wd, (formP s.kind).1 = wd := ⟨_, rfl⟩
  rw [hps, hwd] at CF
  rw [hps]
  have hpl : ps.length ≤ 6 := by
    rw [← hps]
    unfold formP
    split
    · have hall : ∀ x ∈ forms, x.2.length ≤ 6 := by decide
      rw [List.getD_eq_getElem?_getD]
      cases h : forms[(s.kind - 1).toNat]? with
      | none => simp
      | some x => exact hall x (List.mem_of_getElem? h)
    · simp
  clear hps hwd
  obtain ⟨P, hP⟩ : ∃ P : ByteArray, ⟨(ps.map codeP).toArray⟩ = P := ⟨_, rfl⟩
  obtain ⟨W, hW⟩ : ∃ W, (((w.alloc (.cells (stpC s) 26)).alloc (.cells #[.int .i64 0, .int .i64 0, .int .i64 0, .int .i64 0, .int .i64 0, .string ⟨#[]⟩, .string ⟨#[]⟩, .string ⟨#[]⟩, .int .i64 0] 26)).alloc (.cells #[.int .i64 s.kind, .int .i64 0, .int .i64 0, .int .i64 0, .int .i64 0, .string ⟨#[]⟩, .string ⟨#[]⟩, .string ⟨#[]⟩, .int .i64 (-1)] 26)).iter P 0 = W := ⟨_, rfl⟩
  have I0 : BareI s ps w 0 W := by
    have e3 : (((w.alloc (.cells (stpC s) 26)).alloc (.cells #[.int .i64 0, .int .i64 0, .int .i64 0, .int .i64 0, .int .i64 0, .string ⟨#[]⟩, .string ⟨#[]⟩, .string ⟨#[]⟩, .int .i64 0] 26)).alloc (.cells #[.int .i64 s.kind, .int .i64 0, .int .i64 0, .int .i64 0, .int .i64 0, .string ⟨#[]⟩, .string ⟨#[]⟩, .string ⟨#[]⟩, .int .i64 (-1)] 26)).heap.size = w.heap.size + 3 := by simp
    have hbi : Below (w.heap.size + 3) (((w.alloc (.cells (stpC s) 26)).alloc (.cells #[.int .i64 0, .int .i64 0, .int .i64 0, .int .i64 0, .int .i64 0, .string ⟨#[]⟩, .string ⟨#[]⟩, .string ⟨#[]⟩, .int .i64 0] 26)).alloc (.cells #[.int .i64 s.kind, .int .i64 0, .int .i64 0, .int .i64 0, .int .i64 0, .string ⟨#[]⟩, .string ⟨#[]⟩, .string ⟨#[]⟩, .int .i64 (-1)] 26)) W := by
      rw [← hW]
      exact below_iter (Below.refl _ _) (Nat.le_of_eq e3.symm) _ _
    refine ⟨?_, ?_, ?_, ?_, ?_⟩
    · rw [hP, ← hW]
      have := It.new (((w.alloc (.cells (stpC s) 26)).alloc (.cells #[.int .i64 0, .int .i64 0, .int .i64 0, .int .i64 0, .int .i64 0, .string ⟨#[]⟩, .string ⟨#[]⟩, .string ⟨#[]⟩, .int .i64 0] 26)).alloc (.cells #[.int .i64 s.kind, .int .i64 0, .int .i64 0, .int .i64 0, .int .i64 0, .string ⟨#[]⟩, .string ⟨#[]⟩, .string ⟨#[]⟩, .int .i64 (-1)] 26)) P 0
      rwa [e3] at this
    · exact (((Blk.new w 26 (stpC s)).alloc _).alloc _).below hbi (by omega)
    · have h1 := (Blk.new (w.alloc (.cells (stpC s) 26)) 26 #[.int .i64 0, .int .i64 0, .int .i64 0, .int .i64 0, .int .i64 0, .string ⟨#[]⟩, .string ⟨#[]⟩, .string ⟨#[]⟩, .int .i64 0]).alloc (.cells #[.int .i64 s.kind, .int .i64 0, .int .i64 0, .int .i64 0, .int .i64 0, .string ⟨#[]⟩, .string ⟨#[]⟩, .string ⟨#[]⟩, .int .i64 (-1)] 26)
      rw [World.size_alloc] at h1
      exact h1.below hbi (by omega)
    · have h1 := Blk.new ((w.alloc (.cells (stpC s) 26)).alloc (.cells #[.int .i64 0, .int .i64 0, .int .i64 0, .int .i64 0, .int .i64 0, .string ⟨#[]⟩, .string ⟨#[]⟩, .string ⟨#[]⟩, .int .i64 0] 26)) 26 #[.int .i64 s.kind, .int .i64 0, .int .i64 0, .int .i64 0, .int .i64 0, .string ⟨#[]⟩, .string ⟨#[]⟩, .string ⟨#[]⟩, .int .i64 (-1)]
      rw [World.size_alloc, World.size_alloc] at h1
      rw [List.take_zero, bare_nil]
      exact h1.below hbi (by omega)
    · exact ((((Below.refl _ _).alloc (Nat.le_refl _) _).alloc (by simp) _).alloc (by simp; omega) _).trans (hbi.mono (by omega))
  have HI0 := Lib.hid I0
  have HPP := Lib.hid hP
  have HW := Lib.hid hW
  have q0 : ∀ o1, ((w.alloc (.cells (stpC s) 26)).alloc o1).cell? ⟨w.heap.size, 0, none⟩ = some (.int .i64 s.kind) := fun o1 => ((Blk.new w 26 (stpC s)).alloc o1).cell 0
  clear I0 hP hW
  unfold stpC at HW ⊢
  unfold stpC at q0
  go_enter Tryd.func24, Tryd.ntmps24
  go_wp2_with fail
  refine (CF.out _).mono ?_
  clear CF
  rintro e w1 ⟨rfl, rfl⟩
  rw [HPP.out]
  go_upto_region 4 with fail
  rw [HW.out]
  go_loopw [7, 23, 28, 33, 38, 43, 48, 53, 58] (fun v7 v23 v28 v33 v38 v43 v48 v53 v58 wr => ∃ k, k ≤ ps.length ∧ BareI s ps w k wr) (fun _ _ _ _ _ _ _ _ _ wr => ps.length - wr.iterPos (w.heap.size + 3))
  case atStart => exact ⟨0, Nat.zero_le _, HI0.out⟩
  case round =>
    clear HI0 HW q0
    obtain ⟨k, hk, HI⟩ := hrel
    have HBI := Lib.hid HI
    have hpos := HI.it.pos
    by_cases hkl : k < ps.length
    · obtain ⟨p, hp⟩ : ∃ p, ps[k] = p := ⟨_, rfl⟩
      have hnx : ∀ ty, (Instr.next (.pointer (some ⟨w.heap.size + 3, 0, none⟩)) true ty).run Tryd.prog wr = .ok (.tuple #[.bool true, .int .i64 k, .int .i32 ((codeP p).toNat : Int)]) (wr.iterAt (w.heap.size + 3) P (k + 1)) := by
        intro ty
        have hP := HPP.out
        have hsz : P.size = ps.length := by rw [← hP]; exact parts_size ps codeP
        have hg : ∀ h, P[k]'h = codeP p := by
          subst hP
          intro h
          rw [← hp]
          exact parts_get ps codeP k hkl
        have hit : It wr (w.heap.size + 3) P k := by rw [← hP]; exact HI.it
        rw [Lib.run_next_any_at wr _ P k ty hit (by omega), decode_ascii P k (by omega) (by rw [hg]; exact codeP_lo p)]
        simp [hg]
      have B0 := HI.b0.iterAt (HI.it.ne HI.b0) P (k + 1)
      have B2 := HI.b2.iterAt (HI.it.ne HI.b2) P (k + 1)
      have htk : ps.take (k + 1) = ps.take k ++ [p] := by rw [List.take_succ_eq_append_getElem hkl, hp]
      have hN : ∀ i v, stpC (bareS s (ps.take (k + 1))) = (stpC (bareS s (ps.take k))).setIfInBounds i v → BareI s ps w (k + 1) ((wr.iterAt (w.heap.size + 3) P (k + 1)).setCell ⟨w.heap.size + 2, i, none⟩ v) := by
        rw [← HPP.out]
        intro i v he
        exact HBI.out.next he
      rw [htk] at hN
      have HN := Lib.hid hN
      clear hN htk hp
      have hb2s : w.heap.size + 2 < (wr.iterAt (w.heap.size + 3) P (k + 1)).heap.size := B2.lt
      have hst : (stpC (bareS s (ps.take k))).size = 9 := rfl
      cases p
      · have g0 : (wr.iterAt (w.heap.size + 3) P (k + 1)).cell? ⟨w.heap.size, 1, none⟩ = some (.int .i64 s.n) := B0.cell 1
        have g2 : ∃ x, (wr.iterAt (w.heap.size + 3) P (k + 1)).cell? ⟨w.heap.size + 2, 1, none⟩ = some x := ⟨_, B2.cell 1⟩
        obtain ⟨x2, g2⟩ := g2
        have f2 : (wr.iterAt (w.heap.size + 3) P (k + 1)).frozen? ⟨w.heap.size + 2, 1, none⟩ = false := B2.frozen 1
        have N := Lib.hid (HN.out 1 (.int .i64 s.n) (bare_snoc_n s _))
        rw [show ((codeP .n).toNat : Int) = 110 from rfl] at hnx
        clear HN B0 B2 HI
        go_wp2_with fail
        go_roundw
        case rel => exact ⟨k + 1, hkl, N.out⟩
        case measure =>
          have hp2 := N.out.it.pos
          rw [hp2]
          omega
      · have g0 : (wr.iterAt (w.heap.size + 3) P (k + 1)).cell? ⟨w.heap.size, 2, none⟩ = some (.int .i64 s.ticks) := B0.cell 2
        have g2 : ∃ x, (wr.iterAt (w.heap.size + 3) P (k + 1)).cell? ⟨w.heap.size + 2, 2, none⟩ = some x := ⟨_, B2.cell 2⟩
        obtain ⟨x2, g2⟩ := g2
        have f2 : (wr.iterAt (w.heap.size + 3) P (k + 1)).frozen? ⟨w.heap.size + 2, 2, none⟩ = false := B2.frozen 2
        have N := Lib.hid (HN.out 2 (.int .i64 s.ticks) (bare_snoc_t s _))
        rw [show ((codeP .t).toNat : Int) = 116 from rfl] at hnx
        clear HN B0 B2 HI
        go_wp2_with fail
        go_roundw
        case rel => exact ⟨k + 1, hkl, N.out⟩
        case measure =>
          have hp2 := N.out.it.pos
          rw [hp2]
          omega
      · have g0 : (wr.iterAt (w.heap.size + 3) P (k + 1)).cell? ⟨w.heap.size, 8, none⟩ = some (.int .i64 s.ctx) := B0.cell 8
        have g2 : ∃ x, (wr.iterAt (w.heap.size + 3) P (k + 1)).cell? ⟨w.heap.size + 2, 8, none⟩ = some x := ⟨_, B2.cell 8⟩
        obtain ⟨x2, g2⟩ := g2
        have f2 : (wr.iterAt (w.heap.size + 3) P (k + 1)).frozen? ⟨w.heap.size + 2, 8, none⟩ = false := B2.frozen 8
        have N := Lib.hid (HN.out 8 (.int .i64 s.ctx) (bare_snoc_c s _))
        rw [show ((codeP .c).toNat : Int) = 99 from rfl] at hnx
        clear HN B0 B2 HI
        go_wp2_with fail
        go_roundw
        case rel => exact ⟨k + 1, hkl, N.out⟩
        case measure =>
          have hp2 := N.out.it.pos
          rw [hp2]
          omega
      · have g0 : (wr.iterAt (w.heap.size + 3) P (k + 1)).cell? ⟨w.heap.size, 3, none⟩ = some (.int .i64 s.tab) := B0.cell 3
        have g2 : ∃ x, (wr.iterAt (w.heap.size + 3) P (k + 1)).cell? ⟨w.heap.size + 2, 3, none⟩ = some x := ⟨_, B2.cell 3⟩
        obtain ⟨x2, g2⟩ := g2
        have f2 : (wr.iterAt (w.heap.size + 3) P (k + 1)).frozen? ⟨w.heap.size + 2, 3, none⟩ = false := B2.frozen 3
        have N := Lib.hid (HN.out 3 (.int .i64 s.tab) (bare_snoc_a s _))
        rw [show ((codeP .a).toNat : Int) = 97 from rfl] at hnx
        clear HN B0 B2 HI
        go_wp2_with fail
        go_roundw
        case rel => exact ⟨k + 1, hkl, N.out⟩
        case measure =>
          have hp2 := N.out.it.pos
          rw [hp2]
          omega
      · have g0 : (wr.iterAt (w.heap.size + 3) P (k + 1)).cell? ⟨w.heap.size, 4, none⟩ = some (.int .i64 s.lev) := B0.cell 4
        have g2 : ∃ x, (wr.iterAt (w.heap.size + 3) P (k + 1)).cell? ⟨w.heap.size + 2, 4, none⟩ = some x := ⟨_, B2.cell 4⟩
        obtain ⟨x2, g2⟩ := g2
        have f2 : (wr.iterAt (w.heap.size + 3) P (k + 1)).frozen? ⟨w.heap.size + 2, 4, none⟩ = false := B2.frozen 4
        have N := Lib.hid (HN.out 4 (.int .i64 s.lev) (bare_snoc_l s _))
        rw [show ((codeP .l).toNat : Int) = 108 from rfl] at hnx
        clear HN B0 B2 HI
        go_wp2_with fail
        go_roundw
        case rel => exact ⟨k + 1, hkl, N.out⟩
        case measure =>
          have hp2 := N.out.it.pos
          rw [hp2]
          omega
      · have g0 : (wr.iterAt (w.heap.size + 3) P (k + 1)).cell? ⟨w.heap.size, 5, none⟩ = some (.string s.key) := B0.cell 5
        have g2 : ∃ x, (wr.iterAt (w.heap.size + 3) P (k + 1)).cell? ⟨w.heap.size + 2, 5, none⟩ = some x := ⟨_, B2.cell 5⟩
        obtain ⟨x2, g2⟩ := g2
        have f2 : (wr.iterAt (w.heap.size + 3) P (k + 1)).frozen? ⟨w.heap.size + 2, 5, none⟩ = false := B2.frozen 5
        have N := Lib.hid (HN.out 5 (.string s.key) (bare_snoc_k s _))
        rw [show ((codeP .k).toNat : Int) = 107 from rfl] at hnx
        clear HN B0 B2 HI
        go_wp2_with fail
        go_roundw
        case rel => exact ⟨k + 1, hkl, N.out⟩
        case measure =>
          have hp2 := N.out.it.pos
          rw [hp2]
          omega
      · have g0 : (wr.iterAt (w.heap.size + 3) P (k + 1)).cell? ⟨w.heap.size, 6, none⟩ = some (.string s.en) := B0.cell 6
        have g2 : ∃ x, (wr.iterAt (w.heap.size + 3) P (k + 1)).cell? ⟨w.heap.size + 2, 6, none⟩ = some x := ⟨_, B2.cell 6⟩
        obtain ⟨x2, g2⟩ := g2
        have f2 : (wr.iterAt (w.heap.size + 3) P (k + 1)).frozen? ⟨w.heap.size + 2, 6, none⟩ = false := B2.frozen 6
        have N := Lib.hid (HN.out 6 (.string s.en) (bare_snoc_e s _))
        rw [show ((codeP .e).toNat : Int) = 101 from rfl] at hnx
        clear HN B0 B2 HI
        go_wp2_with fail
        go_roundw
        case rel => exact ⟨k + 1, hkl, N.out⟩
        case measure =>
          have hp2 := N.out.it.pos
          rw [hp2]
          omega
      · have g0 : (wr.iterAt (w.heap.size + 3) P (k + 1)).cell? ⟨w.heap.size, 7, none⟩ = some (.string s.val) := B0.cell 7
        have g2 : ∃ x, (wr.iterAt (w.heap.size + 3) P (k + 1)).cell? ⟨w.heap.size + 2, 7, none⟩ = some x := ⟨_, B2.cell 7⟩
        obtain ⟨x2, g2⟩ := g2
        have f2 : (wr.iterAt (w.heap.size + 3) P (k + 1)).frozen? ⟨w.heap.size + 2, 7, none⟩ = false := B2.frozen 7
        have N := Lib.hid (HN.out 7 (.string s.val) (bare_snoc_v s _))
        rw [show ((codeP .v).toNat : Int) = 118 from rfl] at hnx
        clear HN B0 B2 HI
        go_wp2_with fail
        go_roundw
        case rel => exact ⟨k + 1, hkl, N.out⟩
        case measure =>
          have hp2 := N.out.it.pos
          rw [hp2]
          omega
    · have hke : k = ps.length := by omega
      have hnx : ∀ ty, (Instr.next (.pointer (some ⟨w.heap.size + 3, 0, none⟩)) true ty).run Tryd.prog wr = .ok (.tuple #[.bool false]) wr := by
        intro ty
        have hP := HPP.out
        have hsz : P.size = ps.length := by rw [← hP]; exact parts_size ps codeP
        exact Lib.run_next_end_at wr _ P k ty (by rw [← hP]; exact HI.it) (by omega)
      have htk : ps.take k = ps := List.take_of_length_le (by omega)
      have B1 := HI.b1
      have B2 := HI.b2
      rw [htk] at B2
      have HBe := Lib.hid HI.be
      clear HI HBI hpos htk hke hkl hk hpl HPP
      generalize hb : bareS s ps = b at *
      have HB := Lib.hid hb
      clear hb
      have g0 : wr.cell? ⟨w.heap.size + 2, 0, none⟩ = some (.int .i64 b.kind) := B2.cell 0
      have z0 := B1.cell 0
      have f0 := B1.frozen 0
      have g1 : wr.cell? ⟨w.heap.size + 2, 1, none⟩ = some (.int .i64 b.n) := B2.cell 1
      have z1 := B1.cell 1
      have f1 := B1.frozen 1
      have g2 : wr.cell? ⟨w.heap.size + 2, 2, none⟩ = some (.int .i64 b.ticks) := B2.cell 2
      have z2 := B1.cell 2
      have f2 := B1.frozen 2
      have g3 : wr.cell? ⟨w.heap.size + 2, 3, none⟩ = some (.int .i64 b.tab) := B2.cell 3
      have z3 := B1.cell 3
      have f3 := B1.frozen 3
      have g4 : wr.cell? ⟨w.heap.size + 2, 4, none⟩ = some (.int .i64 b.lev) := B2.cell 4
      have z4 := B1.cell 4
      have f4 := B1.frozen 4
      have g5 : wr.cell? ⟨w.heap.size + 2, 5, none⟩ = some (.string b.key) := B2.cell 5
      have z5 := B1.cell 5
      have f5 := B1.frozen 5
      have g6 : wr.cell? ⟨w.heap.size + 2, 6, none⟩ = some (.string b.en) := B2.cell 6
      have z6 := B1.cell 6
      have f6 := B1.frozen 6
      have g7 : wr.cell? ⟨w.heap.size + 2, 7, none⟩ = some (.string b.val) := B2.cell 7
      have z7 := B1.cell 7
      have f7 := B1.frozen 7
      have g8 : wr.cell? ⟨w.heap.size + 2, 8, none⟩ = some (.int .i64 b.ctx) := B2.cell 8
      have z8 := B1.cell 8
      have f8 := B1.frozen 8
      go_wp2_with fail
      have ZZ := ((((((((B1.set_ 0 (.int .i64 b.kind)).set_ 1 (.int .i64 b.n)).set_ 2 (.int .i64 b.ticks)).set_ 3 (.int .i64 b.tab)).set_ 4 (.int .i64 b.lev)).set_ 5 (.string b.key)).set_ 6 (.string b.en)).set_ 7 (.string b.val)).set_ 8 (.int .i64 b.ctx)
      have zz := ZZ.cell
      have HZ := HBe.out
      replace HZ := HZ.setCell (p := ⟨w.heap.size + 1, 0, none⟩) (by show w.heap.size ≤ w.heap.size + 1; omega) (.int .i64 b.kind)
      replace HZ := HZ.setCell (p := ⟨w.heap.size + 1, 1, none⟩) (by show w.heap.size ≤ w.heap.size + 1; omega) (.int .i64 b.n)
      replace HZ := HZ.setCell (p := ⟨w.heap.size + 1, 2, none⟩) (by show w.heap.size ≤ w.heap.size + 1; omega) (.int .i64 b.ticks)
      replace HZ := HZ.setCell (p := ⟨w.heap.size + 1, 3, none⟩) (by show w.heap.size ≤ w.heap.size + 1; omega) (.int .i64 b.tab)
      replace HZ := HZ.setCell (p := ⟨w.heap.size + 1, 4, none⟩) (by show w.heap.size ≤ w.heap.size + 1; omega) (.int .i64 b.lev)
      replace HZ := HZ.setCell (p := ⟨w.heap.size + 1, 5, none⟩) (by show w.heap.size ≤ w.heap.size + 1; omega) (.string b.key)
      replace HZ := HZ.setCell (p := ⟨w.heap.size + 1, 6, none⟩) (by show w.heap.size ≤ w.heap.size + 1; omega) (.string b.en)
      replace HZ := HZ.setCell (p := ⟨w.heap.size + 1, 7, none⟩) (by show w.heap.size ≤ w.heap.size + 1; omega) (.string b.val)
      replace HZ := HZ.setCell (p := ⟨w.heap.size + 1, 8, none⟩) (by show w.heap.size ≤ w.heap.size + 1; omega) (.int .i64 b.ctx)

      exact bodyPost_ret (v := .agg (stpC b)) (by simp [results, Tryd.results24, go_sem, zz, stpC]) rfl ⟨by rw [← HB.out]; rfl, HZ⟩

end Go.Proofs.YtimmfcbpdnlfjaaDoor
