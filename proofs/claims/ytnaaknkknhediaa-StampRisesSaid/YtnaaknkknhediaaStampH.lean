/- Contract of the reference's Now. -/
import Derived.Test.YtnaaknkknhediaaStampG
import Derived.Deep.Cut
import Derived.BigRegion
namespace Go.Proofs.Ytnaaknkknhediaa
open Go.RowKit Go.Sort

theorem three_blocks' (w : World) (t1 t2 t3 : TypeId) (a b c : Array Value) : ∃ W, Blk W w.heap.size t1 a ∧ Blk W (w.heap.size + 1) t2 b ∧ Blk W (w.heap.size + 1 + 1) t3 c ∧ Below w.heap.size w W ∧ W.heap.size = w.heap.size + 1 + 1 + 1 ∧ W = ((w.alloc (.cells a t1)).alloc (.cells b t2)).alloc (.cells c t3) := by
  refine ⟨_, ((Blk.new w t1 a).alloc _).alloc _, ?_, ?_, (((Below.refl w.heap.size w).alloc (Nat.le_refl _) _).alloc (by simp) _).alloc (by simp; omega) _, by simp, rfl⟩
  · have := (Blk.new (w.alloc (.cells a t1)) t2 b).alloc (.cells c t3)
    simpa using this
  · have := Blk.new ((w.alloc (.cells a t1)).alloc (.cells b t2)) t3 c
    simpa using this

/-- The reference's Now, its answer. -/
def nowV (who phys l0 l1 l2 : Int) : Value :=
  if rightB (nx0 phys l0) (nx1 phys l0 l1) who = true then
    .tuple #[.agg #[.int .i64 (nx0 phys l0), .int .i64 (nx1 phys l0 l1), .int .i64 who], .agg #[.int .i64 who, .int .i64 phys, .int .i64 (nx0 phys l0), .int .i64 (nx1 phys l0 l1), .int .i64 who], .bool true]
  else .tuple #[.agg #[.int .i64 0, .int .i64 0, .int .i64 0], .agg #[.int .i64 who, .int .i64 phys, .int .i64 l0, .int .i64 l1, .int .i64 l2], .bool false]

/-- The answers' blocks behind the last region. -/
theorem now_end {w Z : World} {t u : TypeId} {r0 r1 r2 s0 s1 s2 s3 s4 : Value} (R : Blk Z (w.heap.size + 1) t #[r0, r1, r2]) (S : Blk Z (w.heap.size + 1 + 1) u #[s0, s1, s2, s3, s4]) (G : Below w.heap.size w Z) (a b c p q x y z : Value) :
    (∀ i, (((((((((Z.setCell ⟨w.heap.size + 1, 0, none⟩ a).setCell ⟨w.heap.size + 1, 1, none⟩ b).setCell ⟨w.heap.size + 1, 2, none⟩ c).setCell ⟨w.heap.size + 1 + 1, 0, none⟩ p).setCell ⟨w.heap.size + 1 + 1, 1, none⟩ q).setCell ⟨w.heap.size + 1 + 1, 2, none⟩ x).setCell ⟨w.heap.size + 1 + 1, 3, none⟩ y).setCell ⟨w.heap.size + 1 + 1, 4, none⟩ z).drew).cell? ⟨w.heap.size + 1, i, none⟩ = [a, b, c][i]?) ∧ (∀ i, (((((((((Z.setCell ⟨w.heap.size + 1, 0, none⟩ a).setCell ⟨w.heap.size + 1, 1, none⟩ b).setCell ⟨w.heap.size + 1, 2, none⟩ c).setCell ⟨w.heap.size + 1 + 1, 0, none⟩ p).setCell ⟨w.heap.size + 1 + 1, 1, none⟩ q).setCell ⟨w.heap.size + 1 + 1, 2, none⟩ x).setCell ⟨w.heap.size + 1 + 1, 3, none⟩ y).setCell ⟨w.heap.size + 1 + 1, 4, none⟩ z).drew).cell? ⟨w.heap.size + 1 + 1, i, none⟩ = [p, q, x, y, z][i]?) ∧ Below w.heap.size w (((((((((Z.setCell ⟨w.heap.size + 1, 0, none⟩ a).setCell ⟨w.heap.size + 1, 1, none⟩ b).setCell ⟨w.heap.size + 1, 2, none⟩ c).setCell ⟨w.heap.size + 1 + 1, 0, none⟩ p).setCell ⟨w.heap.size + 1 + 1, 1, none⟩ q).setCell ⟨w.heap.size + 1 + 1, 2, none⟩ x).setCell ⟨w.heap.size + 1 + 1, 3, none⟩ y).setCell ⟨w.heap.size + 1 + 1, 4, none⟩ z).drew) := by
  refine ⟨fun i => ?_, fun i => ?_, ?_⟩
  · have h := ((((((((R.set_ 0 a).set_ 1 b).set_ 2 c).far (p := ⟨w.heap.size + 1 + 1, 0, none⟩) (by simp) p).far (p := ⟨w.heap.size + 1 + 1, 1, none⟩) (by simp) q).far (p := ⟨w.heap.size + 1 + 1, 2, none⟩) (by simp) x).far (p := ⟨w.heap.size + 1 + 1, 3, none⟩) (by simp) y).far (p := ⟨w.heap.size + 1 + 1, 4, none⟩) (by simp) z).drew
    simpa using h.cell i
  · have h := ((((((((S.far (p := ⟨w.heap.size + 1, 0, none⟩) (by simp) a).far (p := ⟨w.heap.size + 1, 1, none⟩) (by simp) b).far (p := ⟨w.heap.size + 1, 2, none⟩) (by simp) c).set_ 0 p).set_ 1 q).set_ 2 x).set_ 3 y).set_ 4 z).drew
    simpa using h.cell i
  · exact below_drewN ((((((((G.setCell (p := ⟨w.heap.size + 1, 0, none⟩) (by simp) a).setCell (p := ⟨w.heap.size + 1, 1, none⟩) (by simp) b).setCell (p := ⟨w.heap.size + 1, 2, none⟩) (by simp) c).setCell (p := ⟨w.heap.size + 1 + 1, 0, none⟩) (by simp; omega) p).setCell (p := ⟨w.heap.size + 1 + 1, 1, none⟩) (by simp; omega) q).setCell (p := ⟨w.heap.size + 1 + 1, 2, none⟩) (by simp; omega) x).setCell (p := ⟨w.heap.size + 1 + 1, 3, none⟩) (by simp; omega) y).setCell (p := ⟨w.heap.size + 1 + 1, 4, none⟩) (by simp; omega) z) 1

set_option maxRecDepth 100000 in
set_option maxHeartbeats 1000000 in
theorem ref04_Now (who phys l0 l1 l2 : Int) (w : World) (hl : -9223372036854775808 ≤ l1 ∧ l1 < 9223372036854775807) :
    Calls Try.prog 65 #[.agg #[.int .i64 who, .int .i64 phys, .int .i64 l0, .int .i64 l1, .int .i64 l2]] w fun e w' => e = .returned (nowV who phys l0 l1 l2) ∧ Below w.heap.size w w' := by
  unfold nowV
  obtain ⟨n0, n1, h0, h1, hcase⟩ : ∃ n0 n1, nx0 phys l0 = n0 ∧ nx1 phys l0 l1 = n1 ∧ ((decide (l0 < phys) = true ∧ n0 = phys ∧ n1 = 0) ∨ (decide (l0 < phys) = false ∧ n0 = l0 ∧ n1 = l1 + 1)) := by
    refine ⟨_, _, rfl, rfl, ?_⟩
    unfold nx0 nx1
    by_cases h : phys ≤ l0
    · rw [if_pos h, if_pos h]; exact .inr ⟨by simp; omega, rfl, rfl⟩
    · rw [if_neg h, if_neg h]; exact .inl ⟨by simp; omega, rfl, rfl⟩
  rw [h0, h1]
  clear h0 h1
  generalize hR : (if rightB n0 n1 who = true then Value.tuple #[.agg #[.int .i64 n0, .int .i64 n1, .int .i64 who], .agg #[.int .i64 who, .int .i64 phys, .int .i64 n0, .int .i64 n1, .int .i64 who], .bool true] else .tuple #[.agg #[.int .i64 0, .int .i64 0, .int .i64 0], .agg #[.int .i64 who, .int .i64 phys, .int .i64 l0, .int .i64 l1, .int .i64 l2], .bool false]) = R
  have HR := Lib.hid hR
  clear hR
  go_enter Try.func65, Try.ntmps65
  go_upto_region 1 with fail
  obtain ⟨W, B1, B2, B3, hW, hs, hE⟩ := three_blocks' w 87 51 87 #[.int .i64 who, .int .i64 phys, .int .i64 l0, .int .i64 l1, .int .i64 l2] #[.int .i64 0, .int .i64 0, .int .i64 0] #[.int .i64 0, .int .i64 0, .int .i64 0, .int .i64 0, .int .i64 0]
  rw [← hE]
  clear hE
  have c1 := B1.cell
  go_upto_region 2 with fail
  have E1 := B1.alloc (.cells #[.int .i64 l0, .int .i64 (l1 + 1), .int .i64 who] 51)
  have E2 := B2.alloc (.cells #[.int .i64 l0, .int .i64 (l1 + 1), .int .i64 who] 51)
  have E3 := B3.alloc (.cells #[.int .i64 l0, .int .i64 (l1 + 1), .int .i64 who] 51)
  have EX := Blk.new W 51 #[.int .i64 l0, .int .i64 (l1 + 1), .int .i64 who]
  have EG := hW.alloc hW.size (.cells #[.int .i64 l0, .int .i64 (l1 + 1), .int .i64 who] 51)
  clear c1 B1 B2 B3 hW
  rw [hs] at EX
  generalize W.alloc (.cells #[.int .i64 l0, .int .i64 (l1 + 1), .int .i64 who] 51) = U at *
  rcases hcase with ⟨hd, rfl, rfl⟩ | ⟨hd, rfl, rfl⟩
  · have e1 := E1.cell
    have ex := EX.cell
    have ef := EX.frozen
    go_upto_region 4 with fail
    have VC := ((E1.far (p := ⟨w.heap.size + 1 + 1 + 1, 0, none⟩) (by simp; omega) (.int .i64 n0)).far (p := ⟨w.heap.size + 1 + 1 + 1, 1, none⟩) (by simp; omega) (.int .i64 0)).far (p := ⟨w.heap.size + 1 + 1 + 1, 2, none⟩) (by simp; omega) (.int .i64 who)
    have VR := ((E2.far (p := ⟨w.heap.size + 1 + 1 + 1, 0, none⟩) (by simp) (.int .i64 n0)).far (p := ⟨w.heap.size + 1 + 1 + 1, 1, none⟩) (by simp) (.int .i64 0)).far (p := ⟨w.heap.size + 1 + 1 + 1, 2, none⟩) (by simp) (.int .i64 who)
    have VS := ((E3.far (p := ⟨w.heap.size + 1 + 1 + 1, 0, none⟩) (by simp) (.int .i64 n0)).far (p := ⟨w.heap.size + 1 + 1 + 1, 1, none⟩) (by simp) (.int .i64 0)).far (p := ⟨w.heap.size + 1 + 1 + 1, 2, none⟩) (by simp) (.int .i64 who)
    have VX : Blk (((U.setCell ⟨w.heap.size + 1 + 1 + 1, 0, none⟩ (.int .i64 n0)).setCell ⟨w.heap.size + 1 + 1 + 1, 1, none⟩ (.int .i64 0)).setCell ⟨w.heap.size + 1 + 1 + 1, 2, none⟩ (.int .i64 who)) (w.heap.size + 1 + 1 + 1) 51 #[.int .i64 n0, .int .i64 0, .int .i64 who] := by
      simpa using ((EX.set_ 0 (.int .i64 n0)).set_ 1 (.int .i64 0)).set_ 2 (.int .i64 who)
    have VG := ((EG.setCell (p := ⟨w.heap.size + 1 + 1 + 1, 0, none⟩) (by simp; omega) (.int .i64 n0)).setCell (p := ⟨w.heap.size + 1 + 1 + 1, 1, none⟩) (by simp; omega) (.int .i64 0)).setCell (p := ⟨w.heap.size + 1 + 1 + 1, 2, none⟩) (by simp; omega) (.int .i64 who)
    clear e1 ex ef E1 E2 E3 EX EG
    generalize ((U.setCell ⟨w.heap.size + 1 + 1 + 1, 0, none⟩ (.int .i64 n0)).setCell ⟨w.heap.size + 1 + 1 + 1, 1, none⟩ (.int .i64 0)).setCell ⟨w.heap.size + 1 + 1 + 1, 2, none⟩ (.int .i64 who) = V at *
    have vc := VC.cell
    have vx := VX.cell
    go_wp2_with fail
    refine (ref04_Right n0 0 who _).mono ?_
    rintro e w2 ⟨rfl, b2⟩
    have XC := VC.below b2 VC.lt
    have XR := VR.below b2 VR.lt
    have XS := VS.below b2 VS.lt
    have XX := VX.below b2 VX.lt
    have HG := Lib.hid (VG.trans (b2.mono VG.size))
    have xc := XC.cell
    have xx := XX.cell
    have fr := XR.frozen
    have fs := XS.frozen
    have fc := XC.frozen
    have xr := XR.cell
    have xs := XS.cell
    clear VC VR VS VX VG b2 vc vx
    generalize hr : rightB n0 0 who = rb at *
    cases rb with
    | false =>
      obtain ⟨z1, z2, z3⟩ := now_end XR XS HG.out (.int .i64 0) (.int .i64 0) (.int .i64 0) (.int .i64 who) (.int .i64 n0) (.int .i64 l0) (.int .i64 l1) (.int .i64 l2)
      have Z3 := Lib.hid z3
      clear z3 XC XR XS XX
      go_wp2_with fail
      go_region
      go_wp2_with fail
      (try simp only [Exit.inBlock, Exit.then])
      exact bodyPost_ret (v := .tuple #[.agg #[.int .i64 0, .int .i64 0, .int .i64 0], .agg #[.int .i64 who, .int .i64 n0, .int .i64 l0, .int .i64 l1, .int .i64 l2], .bool false]) (by simp [results, Try.results65, go_sem, z1, z2]) rfl ⟨by rw [← HR.out]; rfl, Z3.out⟩
    | true =>
      have YC : Blk (((w2.setCell ⟨w.heap.size, 2, none⟩ (.int .i64 n0)).setCell ⟨w.heap.size, 3, none⟩ (.int .i64 0)).setCell ⟨w.heap.size, 4, none⟩ (.int .i64 who)) w.heap.size 87 #[.int .i64 who, .int .i64 n0, .int .i64 n0, .int .i64 0, .int .i64 who] := by
        simpa using ((XC.set_ 2 (.int .i64 n0)).set_ 3 (.int .i64 0)).set_ 4 (.int .i64 who)
      have YR := ((XR.far (p := ⟨w.heap.size, 2, none⟩) (by simp) (.int .i64 n0)).far (p := ⟨w.heap.size, 3, none⟩) (by simp) (.int .i64 0)).far (p := ⟨w.heap.size, 4, none⟩) (by simp) (.int .i64 who)
      have YS := ((XS.far (p := ⟨w.heap.size, 2, none⟩) (by simp; omega) (.int .i64 n0)).far (p := ⟨w.heap.size, 3, none⟩) (by simp; omega) (.int .i64 0)).far (p := ⟨w.heap.size, 4, none⟩) (by simp; omega) (.int .i64 who)
      have YX := ((XX.far (p := ⟨w.heap.size, 2, none⟩) (by simp; omega) (.int .i64 n0)).far (p := ⟨w.heap.size, 3, none⟩) (by simp; omega) (.int .i64 0)).far (p := ⟨w.heap.size, 4, none⟩) (by simp; omega) (.int .i64 who)
      have YG := ((HG.out.setCell (p := ⟨w.heap.size, 2, none⟩) (by simp) (.int .i64 n0)).setCell (p := ⟨w.heap.size, 3, none⟩) (by simp) (.int .i64 0)).setCell (p := ⟨w.heap.size, 4, none⟩) (by simp) (.int .i64 who)
      go_upto_region 7 with fail
      clear XC XR XS XX HG xc xx fr fs fc xr xs
      generalize ((w2.setCell ⟨w.heap.size, 2, none⟩ (.int .i64 n0)).setCell ⟨w.heap.size, 3, none⟩ (.int .i64 0)).setCell ⟨w.heap.size, 4, none⟩ (.int .i64 who) = Y at *
      have yc := YC.cell
      have yx := YX.cell
      have yr := YR.cell
      have ys := YS.cell
      have fr := YR.frozen
      have fs := YS.frozen
      obtain ⟨z1, z2, z3⟩ := now_end YR YS YG (.int .i64 n0) (.int .i64 0) (.int .i64 who) (.int .i64 who) (.int .i64 n0) (.int .i64 n0) (.int .i64 0) (.int .i64 who)
      have Z3 := Lib.hid z3
      clear z3 YC YR YS YX YG
      go_region
      go_wp2_with fail
      (try simp only [Exit.inBlock, Exit.then])
      exact bodyPost_ret (v := .tuple #[.agg #[.int .i64 n0, .int .i64 0, .int .i64 who], .agg #[.int .i64 who, .int .i64 n0, .int .i64 n0, .int .i64 0, .int .i64 who], .bool true]) (by simp [results, Try.results65, go_sem, z1, z2]) rfl ⟨by rw [← HR.out]; rfl, Z3.out⟩
  · have VC := E1
    have VR := E2
    have VS := E3
    have VX := EX
    have VG := EG
    clear E1 E2 E3 EX EG
    have vc := VC.cell
    have vx := VX.cell
    go_wp2_with fail
    refine (ref04_Right n0 (l1 + 1) who _).mono ?_
    rintro e w2 ⟨rfl, b2⟩
    have XC := VC.below b2 VC.lt
    have XR := VR.below b2 VR.lt
    have XS := VS.below b2 VS.lt
    have XX := VX.below b2 VX.lt
    have HG := Lib.hid (VG.trans (b2.mono VG.size))
    have xc := XC.cell
    have xx := XX.cell
    have fr := XR.frozen
    have fs := XS.frozen
    have fc := XC.frozen
    have xr := XR.cell
    have xs := XS.cell
    clear VC VR VS VX VG b2 vc vx
    generalize hr : rightB n0 (l1 + 1) who = rb at *
    cases rb with
    | false =>
      obtain ⟨z1, z2, z3⟩ := now_end XR XS HG.out (.int .i64 0) (.int .i64 0) (.int .i64 0) (.int .i64 who) (.int .i64 phys) (.int .i64 n0) (.int .i64 l1) (.int .i64 l2)
      have Z3 := Lib.hid z3
      clear z3 XC XR XS XX
      go_wp2_with fail
      go_region
      go_wp2_with fail
      (try simp only [Exit.inBlock, Exit.then])
      exact bodyPost_ret (v := .tuple #[.agg #[.int .i64 0, .int .i64 0, .int .i64 0], .agg #[.int .i64 who, .int .i64 phys, .int .i64 n0, .int .i64 l1, .int .i64 l2], .bool false]) (by simp [results, Try.results65, go_sem, z1, z2]) rfl ⟨by rw [← HR.out]; rfl, Z3.out⟩
    | true =>
      have YC : Blk (((w2.setCell ⟨w.heap.size, 2, none⟩ (.int .i64 n0)).setCell ⟨w.heap.size, 3, none⟩ (.int .i64 (l1 + 1))).setCell ⟨w.heap.size, 4, none⟩ (.int .i64 who)) w.heap.size 87 #[.int .i64 who, .int .i64 phys, .int .i64 n0, .int .i64 (l1 + 1), .int .i64 who] := by
        simpa using ((XC.set_ 2 (.int .i64 n0)).set_ 3 (.int .i64 (l1 + 1))).set_ 4 (.int .i64 who)
      have YR := ((XR.far (p := ⟨w.heap.size, 2, none⟩) (by simp) (.int .i64 n0)).far (p := ⟨w.heap.size, 3, none⟩) (by simp) (.int .i64 (l1 + 1))).far (p := ⟨w.heap.size, 4, none⟩) (by simp) (.int .i64 who)
      have YS := ((XS.far (p := ⟨w.heap.size, 2, none⟩) (by simp; omega) (.int .i64 n0)).far (p := ⟨w.heap.size, 3, none⟩) (by simp; omega) (.int .i64 (l1 + 1))).far (p := ⟨w.heap.size, 4, none⟩) (by simp; omega) (.int .i64 who)
      have YX := ((XX.far (p := ⟨w.heap.size, 2, none⟩) (by simp; omega) (.int .i64 n0)).far (p := ⟨w.heap.size, 3, none⟩) (by simp; omega) (.int .i64 (l1 + 1))).far (p := ⟨w.heap.size, 4, none⟩) (by simp; omega) (.int .i64 who)
      have YG := ((HG.out.setCell (p := ⟨w.heap.size, 2, none⟩) (by simp) (.int .i64 n0)).setCell (p := ⟨w.heap.size, 3, none⟩) (by simp) (.int .i64 (l1 + 1))).setCell (p := ⟨w.heap.size, 4, none⟩) (by simp) (.int .i64 who)
      go_upto_region 7 with fail
      clear XC XR XS XX HG xc xx fr fs fc xr xs
      generalize ((w2.setCell ⟨w.heap.size, 2, none⟩ (.int .i64 n0)).setCell ⟨w.heap.size, 3, none⟩ (.int .i64 (l1 + 1))).setCell ⟨w.heap.size, 4, none⟩ (.int .i64 who) = Y at *
      have yc := YC.cell
      have yx := YX.cell
      have yr := YR.cell
      have ys := YS.cell
      have fr := YR.frozen
      have fs := YS.frozen
      obtain ⟨z1, z2, z3⟩ := now_end YR YS YG (.int .i64 n0) (.int .i64 (l1 + 1)) (.int .i64 who) (.int .i64 who) (.int .i64 phys) (.int .i64 n0) (.int .i64 (l1 + 1)) (.int .i64 who)
      have Z3 := Lib.hid z3
      clear z3 YC YR YS YX YG
      go_region
      go_wp2_with fail
      (try simp only [Exit.inBlock, Exit.then])
      exact bodyPost_ret (v := .tuple #[.agg #[.int .i64 n0, .int .i64 (l1 + 1), .int .i64 who], .agg #[.int .i64 who, .int .i64 phys, .int .i64 n0, .int .i64 (l1 + 1), .int .i64 who], .bool true]) (by simp [results, Try.results65, go_sem, z1, z2]) rfl ⟨by rw [← HR.out]; rfl, Z3.out⟩
end Go.Proofs.Ytnaaknkknhediaa
