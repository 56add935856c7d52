/- Contracts of stamp.New and of a clock's Now where it tells a stamp. -/
import Derived.Test.YtnaaknkknhediaaStampD
import Derived.BigRegion
namespace Go.Proofs.Ytnaaknkknhediaa
open Go.RowKit Go.Sort

def cutS (n : Int) : Int := min (max n 0) 1099511627776

set_option maxRecDepth 100000 in
theorem stamp_New (who phys : Int) (w : World) : Calls Try.prog 54 #[.int .i64 who, .int .i64 phys] w fun e w' =>
    e = .returned (.pointer (some ⟨w.heap.size, 0, none⟩)) ∧ w' = w.alloc (.cells #[.int .i64 (cutS who), .int .i64 (cutS phys), .int .i64 0, .int .i64 0, .int .i64 0] 111) := by
  unfold cutS
  go_enter Try.func54, Try.ntmps54
  go_wp2_with fail
  all_goals
    go_ret
    refine ⟨rfl, ?_⟩
    first
    | rw [show min (max who 0) 1099511627776 = 0 by omega]
    | rw [show min (max who 0) 1099511627776 = 1099511627776 by omega]
    | rw [show min (max who 0) 1099511627776 = who by omega]
    first
    | rw [show min (max phys 0) 1099511627776 = 0 by omega]
    | rw [show min (max phys 0) 1099511627776 = 1099511627776 by omega]
    | rw [show min (max phys 0) 1099511627776 = phys by omega]

theorem grown_of_below {w w' : World} {row : Option Nat} (h : Below w.heap.size w w') : w.grownBy w' row := ⟨h.os, h.tape, h.output, h.size, fun k hk _ => h.block k hk⟩
theorem grown_set_new {w w' : World} {row : Option Nat} (h : w.grownBy w' row) {p : Addr} (hp : w.heap.size ≤ p.block) (u : Value) : w.grownBy (w'.setCell p u) row :=
  ⟨h.os, h.tape, h.output, by have := h.size; simpa [World.setCell] using this, fun k hk hne => (Below.heap_setCell w' p u k (by omega)).trans (h.block k hk hne)⟩
theorem grown_set_row {w w' : World} {g i : Nat} (h : w.grownBy w' (some g)) (u : Value) : w.grownBy (w'.setCell ⟨g, i, none⟩ u) (some g) :=
  ⟨h.os, h.tape, h.output, by have := h.size; simpa [World.setCell] using this, fun k hk hne => (Below.heap_setCell w' _ u k (fun e => hne (by rw [e]))).trans (h.block k hk hne)⟩

/-- What a clock's next stamp is. -/
def nx0 (phys l0 : Int) : Int := if phys ≤ l0 then l0 else phys
def nx1 (phys l0 l1 : Int) : Int := if phys ≤ l0 then l1 + 1 else 0

set_option maxRecDepth 100000 in
set_option maxHeartbeats 1000000 in
theorem clock_Now (g : Nat) (who phys l0 l1 l2 : Int) (w : World) (h : Blk w g 111 #[.int .i64 who, .int .i64 phys, .int .i64 l0, .int .i64 l1, .int .i64 l2]) (hl : -9223372036854775808 ≤ l1 ∧ l1 < 9223372036854775807) :
    Calls Try.prog 57 #[.pointer (some ⟨g, 0, none⟩)] w fun e w' =>
      (rightB (nx0 phys l0) (nx1 phys l0 l1) who = true → e = .returned (.tuple #[.agg #[.int .i64 (nx0 phys l0), .int .i64 (nx1 phys l0 l1), .int .i64 who], .bool true]) ∧
        Blk w' g 111 #[.int .i64 who, .int .i64 phys, .int .i64 (nx0 phys l0), .int .i64 (nx1 phys l0 l1), .int .i64 who] ∧ w.grownBy w' (some g)) ∧
      (rightB (nx0 phys l0) (nx1 phys l0 l1) who = false → e = .returned (.tuple #[.agg #[.int .i64 0, .int .i64 0, .int .i64 0], .bool false]) ∧
        Blk w' g 111 #[.int .i64 who, .int .i64 phys, .int .i64 l0, .int .i64 l1, .int .i64 l2] ∧ w.grownBy w' (some g)) := by
  by_cases hp : phys ≤ l0
  · unfold nx0 nx1
    rw [if_pos hp, if_pos hp]
    have hd : decide (phys ≤ l0) = true := by simp [hp]
    have hc := h.cell
    have hlt := h.lt
    go_enter Try.func57, Try.ntmps57
    go_wp2_with fail
    go_region
    generalize hW : ((w.alloc (.cells #[.int .i64 0, .int .i64 0, .int .i64 0] 51)).alloc (.cells #[.int .i64 phys, .int .i64 0, .int .i64 who] 51)).drew = W
    have BC : Blk W g 111 #[.int .i64 who, .int .i64 phys, .int .i64 l0, .int .i64 l1, .int .i64 l2] := by rw [← hW]; exact ((h.alloc _).alloc _).drew
    have BR : Blk W w.heap.size 51 #[.int .i64 0, .int .i64 0, .int .i64 0] := by rw [← hW]; exact ((Blk.new _ _ _).alloc _).drew
    have BX : Blk W (w.heap.size + 1) 51 #[.int .i64 phys, .int .i64 0, .int .i64 who] := by
      rw [← hW]
      have := (Blk.new (w.alloc (.cells #[.int .i64 0, .int .i64 0, .int .i64 0] 51)) 51 #[.int .i64 phys, .int .i64 0, .int .i64 who]).drew
      simpa using this
    have hG : Below w.heap.size w W := by rw [← hW]; exact below_drewN (((Below.refl _ _).alloc (Nat.le_refl _) _).alloc (by simp) _) 1
    clear hW hc
    have hc := BC.cell
    have hx := BX.cell
    have fx := BX.frozen
    go_wp2_with fail
    go_quiet (fail)
    go_wp2_with fail
    go_region
    have VX : Blk (((W.drewN (nq + 1)).setCell ⟨w.heap.size + 1, 0, none⟩ (.int .i64 l0)).setCell ⟨w.heap.size + 1, 1, none⟩ (.int .i64 (l1 + 1))) (w.heap.size + 1) 51 #[.int .i64 (l0), .int .i64 (l1 + 1), .int .i64 who] := by
      simpa using ((BX.drewN (nq + 1)).set_ 0 (.int .i64 l0)).set_ 1 (.int .i64 (l1 + 1))
    have VC : Blk (((W.drewN (nq + 1)).setCell ⟨w.heap.size + 1, 0, none⟩ (.int .i64 l0)).setCell ⟨w.heap.size + 1, 1, none⟩ (.int .i64 (l1 + 1))) g 111 #[.int .i64 who, .int .i64 phys, .int .i64 l0, .int .i64 l1, .int .i64 l2] := by
      exact ((BC.drewN (nq + 1)).far (by simp; omega) _).far (by simp; omega) _
    have VR : Blk (((W.drewN (nq + 1)).setCell ⟨w.heap.size + 1, 0, none⟩ (.int .i64 l0)).setCell ⟨w.heap.size + 1, 1, none⟩ (.int .i64 (l1 + 1))) w.heap.size 51 #[.int .i64 0, .int .i64 0, .int .i64 0] := by
      exact ((BR.drewN (nq + 1)).far (by simp) _).far (by simp) _
    have VG : Below w.heap.size w (((W.drewN (nq + 1)).setCell ⟨w.heap.size + 1, 0, none⟩ (.int .i64 l0)).setCell ⟨w.heap.size + 1, 1, none⟩ (.int .i64 (l1 + 1))) := by
      exact ((below_drewN hG (nq + 1)).setCell (p := ⟨w.heap.size + 1, 0, none⟩) (by simp) _).setCell (p := ⟨w.heap.size + 1, 1, none⟩) (by simp) _
    have vx := VX.cell
    clear hc hx fx BC BR BX hG
    generalize (((W.drewN (nq + 1)).setCell ⟨w.heap.size + 1, 0, none⟩ (.int .i64 l0)).setCell ⟨w.heap.size + 1, 1, none⟩ (.int .i64 (l1 + 1))) = V at *
    go_wp2_with fail
    refine (stamp_Right (l0) (l1 + 1) who _).mono ?_
    rintro e w2 ⟨rfl, b2⟩
    have XC := VC.below b2 VC.lt
    have XX := VX.below b2 VX.lt
    have XR := VR.below b2 VR.lt
    have hG2 := VG.trans (b2.mono VG.size)
    clear VX VC VR VG b2 vx h
    have xr := XR.cell
    have fr := XR.frozen
    have xx := XX.cell
    have xc := XC.cell
    have fc := XC.frozen
    have hne : w.heap.size ≠ g := by omega
    have XC1 := ((XC.set_ 2 (.int .i64 (l0))).set_ 3 (.int .i64 (l1 + 1))).set_ 4 (.int .i64 who)
    have XX1 := ((XX.far (p := ⟨g, 2, none⟩) (by simp; omega) (.int .i64 (l0))).far (p := ⟨g, 3, none⟩) (by simp; omega) (.int .i64 (l1 + 1))).far (p := ⟨g, 4, none⟩) (by simp; omega) (.int .i64 who)
    have XR1 := ((XR.far (p := ⟨g, 2, none⟩) (by simp; omega) (.int .i64 (l0))).far (p := ⟨g, 3, none⟩) (by simp; omega) (.int .i64 (l1 + 1))).far (p := ⟨g, 4, none⟩) (by simp; omega) (.int .i64 who)
    have XR2 := ((XR1.set_ 0 (.int .i64 (l0))).set_ 1 (.int .i64 (l1 + 1))).set_ 2 (.int .i64 who)
    have XC2 := ((XC1.far (p := ⟨w.heap.size, 0, none⟩) (by simp; omega) (.int .i64 (l0))).far (p := ⟨w.heap.size, 1, none⟩) (by simp; omega) (.int .i64 (l1 + 1))).far (p := ⟨w.heap.size, 2, none⟩) (by simp; omega) (.int .i64 who)
    have XR3 := ((XR.set_ 0 (.int .i64 0)).set_ 1 (.int .i64 0)).set_ 2 (.int .i64 0)
    have XC3 := ((XC.far (p := ⟨w.heap.size, 0, none⟩) (by simp; omega) (.int .i64 0)).far (p := ⟨w.heap.size, 1, none⟩) (by simp; omega) (.int .i64 0)).far (p := ⟨w.heap.size, 2, none⟩) (by simp; omega) (.int .i64 0)
    have x1 := XX1.cell
    have r1 := XR1.frozen
    have rc := XR1.cell
    have r2 := XR2.cell
    have r3 := XR3.cell
    simp at x1 r2 r3 rc
    have HC2 := Lib.hid XC2
    have HC3 := Lib.hid XC3
    have HG := Lib.hid hG2
    clear XC XX XR XC1 XX1 XR1 XR2 XC2 XR3 XC3 hG2
    cases hrb : rightB (l0) (l1 + 1) who with
    | false =>
      go_wp2_with fail
      (try simp only [Exit.inBlock, Exit.then])
      refine bodyPost_ret (v := .tuple #[.agg #[.int .i64 0, .int .i64 0, .int .i64 0], .bool false]) (by simp [results, Try.results57, go_sem, r3]) rfl ⟨fun hx => absurd hx (by simp [hrb]), fun _ => ⟨rfl, HC3.out, ?_⟩⟩
      exact grown_set_new (grown_set_new (grown_set_new (grown_of_below HG.out) (by simp) _) (by simp) _) (by simp) _
    | true =>
      go_wp2_with fail
      (try simp only [Exit.inBlock, Exit.then])
      refine bodyPost_ret (v := .tuple #[.agg #[.int .i64 l0, .int .i64 (l1 + 1), .int .i64 who], .bool true]) (by simp [results, Try.results57, go_sem, r2]) rfl ⟨fun _ => ⟨rfl, by simpa using HC2.out, ?_⟩, fun hx => absurd hx (by simp [hrb])⟩
      exact grown_set_new (grown_set_new (grown_set_new (grown_set_row (grown_set_row (grown_set_row (grown_of_below HG.out) _) _) _) (by simp) _) (by simp) _) (by simp) _
  · unfold nx0 nx1
    rw [if_neg hp, if_neg hp]
    have hd : decide (phys ≤ l0) = false := by simp [hp]
    have hc := h.cell
    have hlt := h.lt
    go_enter Try.func57, Try.ntmps57
    go_wp2_with fail
    go_region
    generalize hW : ((w.alloc (.cells #[.int .i64 0, .int .i64 0, .int .i64 0] 51)).alloc (.cells #[.int .i64 phys, .int .i64 0, .int .i64 who] 51)).drew = W
    have BC : Blk W g 111 #[.int .i64 who, .int .i64 phys, .int .i64 l0, .int .i64 l1, .int .i64 l2] := by rw [← hW]; exact ((h.alloc _).alloc _).drew
    have BR : Blk W w.heap.size 51 #[.int .i64 0, .int .i64 0, .int .i64 0] := by rw [← hW]; exact ((Blk.new _ _ _).alloc _).drew
    have BX : Blk W (w.heap.size + 1) 51 #[.int .i64 phys, .int .i64 0, .int .i64 who] := by
      rw [← hW]
      have := (Blk.new (w.alloc (.cells #[.int .i64 0, .int .i64 0, .int .i64 0] 51)) 51 #[.int .i64 phys, .int .i64 0, .int .i64 who]).drew
      simpa using this
    have hG : Below w.heap.size w W := by rw [← hW]; exact below_drewN (((Below.refl _ _).alloc (Nat.le_refl _) _).alloc (by simp) _) 1
    clear hW hc
    have hc := BC.cell
    have hx := BX.cell
    have fx := BX.frozen
    go_wp2_with fail
    go_quiet (fail)
    have VX : Blk (W.drewN nq) (w.heap.size + 1) 51 #[.int .i64 phys, .int .i64 0, .int .i64 who] := BX.drewN nq
    have VC : Blk (W.drewN nq) g 111 #[.int .i64 who, .int .i64 phys, .int .i64 l0, .int .i64 l1, .int .i64 l2] := BC.drewN nq
    have VR : Blk (W.drewN nq) w.heap.size 51 #[.int .i64 0, .int .i64 0, .int .i64 0] := BR.drewN nq
    have VG : Below w.heap.size w (W.drewN nq) := below_drewN hG nq
    have vx := VX.cell
    clear hc hx fx BC BR BX hG
    generalize W.drewN nq = V at *
    go_wp2_with fail
    refine (stamp_Right phys 0 who _).mono ?_
    rintro e w2 ⟨rfl, b2⟩
    have XC := VC.below b2 VC.lt
    have XX := VX.below b2 VX.lt
    have XR := VR.below b2 VR.lt
    have hG2 := VG.trans (b2.mono VG.size)
    clear VX VC VR VG b2 vx h
    have xr := XR.cell
    have fr := XR.frozen
    have xx := XX.cell
    have xc := XC.cell
    have fc := XC.frozen
    have hne : w.heap.size ≠ g := by omega
    have XC1 := ((XC.set_ 2 (.int .i64 phys)).set_ 3 (.int .i64 0)).set_ 4 (.int .i64 who)
    have XX1 := ((XX.far (p := ⟨g, 2, none⟩) (by simp; omega) (.int .i64 phys)).far (p := ⟨g, 3, none⟩) (by simp; omega) (.int .i64 0)).far (p := ⟨g, 4, none⟩) (by simp; omega) (.int .i64 who)
    have XR1 := ((XR.far (p := ⟨g, 2, none⟩) (by simp; omega) (.int .i64 phys)).far (p := ⟨g, 3, none⟩) (by simp; omega) (.int .i64 0)).far (p := ⟨g, 4, none⟩) (by simp; omega) (.int .i64 who)
    have XR2 := ((XR1.set_ 0 (.int .i64 phys)).set_ 1 (.int .i64 0)).set_ 2 (.int .i64 who)
    have XC2 := ((XC1.far (p := ⟨w.heap.size, 0, none⟩) (by simp; omega) (.int .i64 phys)).far (p := ⟨w.heap.size, 1, none⟩) (by simp; omega) (.int .i64 0)).far (p := ⟨w.heap.size, 2, none⟩) (by simp; omega) (.int .i64 who)
    have XR3 := ((XR.set_ 0 (.int .i64 0)).set_ 1 (.int .i64 0)).set_ 2 (.int .i64 0)
    have XC3 := ((XC.far (p := ⟨w.heap.size, 0, none⟩) (by simp; omega) (.int .i64 0)).far (p := ⟨w.heap.size, 1, none⟩) (by simp; omega) (.int .i64 0)).far (p := ⟨w.heap.size, 2, none⟩) (by simp; omega) (.int .i64 0)
    have x1 := XX1.cell
    have r1 := XR1.frozen
    have rc := XR1.cell
    have r2 := XR2.cell
    have r3 := XR3.cell
    simp at x1 r2 r3 rc
    have HC2 := Lib.hid XC2
    have HC3 := Lib.hid XC3
    have HG := Lib.hid hG2
    clear XC XX XR XC1 XX1 XR1 XR2 XC2 XR3 XC3 hG2
    cases hrb : rightB phys 0 who with
    | false =>
      go_wp2_with fail
      (try simp only [Exit.inBlock, Exit.then])
      refine bodyPost_ret (v := .tuple #[.agg #[.int .i64 0, .int .i64 0, .int .i64 0], .bool false]) (by simp [results, Try.results57, go_sem, r3]) rfl ⟨fun hx => absurd hx (by simp [hrb]), fun _ => ⟨rfl, HC3.out, ?_⟩⟩
      exact grown_set_new (grown_set_new (grown_set_new (grown_of_below HG.out) (by simp) _) (by simp) _) (by simp) _
    | true =>
      go_wp2_with fail
      (try simp only [Exit.inBlock, Exit.then])
      refine bodyPost_ret (v := .tuple #[.agg #[.int .i64 phys, .int .i64 0, .int .i64 who], .bool true]) (by simp [results, Try.results57, go_sem, r2]) rfl ⟨fun _ => ⟨rfl, by simpa using HC2.out, ?_⟩, fun hx => absurd hx (by simp [hrb])⟩
      exact grown_set_new (grown_set_new (grown_set_new (grown_set_row (grown_set_row (grown_set_row (grown_of_below HG.out) _) _) _) (by simp) _) (by simp) _) (by simp) _
end Go.Proofs.Ytnaaknkknhediaa
