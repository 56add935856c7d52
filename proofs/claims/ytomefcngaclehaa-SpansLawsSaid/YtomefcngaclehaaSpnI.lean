/- Contracts of slices.Grow, slices.Concat over spans, and of spans.Join. -/
import Derived.Test.YtomefcngaclehaaSpnG
import Derived.Test.YtomefcngaclehaaLayQ
import Derived.LoopN
namespace Go.Proofs.Ytomefcngaclehaa
open Go.RowKit Go.Sort Go.Shelf

/-- append of a row of spans. -/
theorem append_spans {ops : Array Oper} {rest : List Oper} {o : Oper} {a : Act} {Q : Exit → Act → World → Prop} (w : World) (hgd : o.guard = none) (sl x : Operand)
    (ho : o.op = .call { callee := .builtin .append, args := #[sl, x], argTypes := #[39, 39] }) (base : Nat) (v : Value) (S : List Sp) (hs : a.eval sl = v) (hown : OwnP 41 w base v S)
    (A : Option Addr) (n c : Nat) (l : List Sp) (hx : a.eval x = .slice A n c) (hr : RdP w A l) (hn : l.length = n) (hlen : S.length ≤ 1000000) (hlen2 : n ≤ 1000000) (hbase : base ≤ w.heap.size)
    (h : ∀ v' w', OwnP 41 w' base v' (S ++ l) → w.grownBy w' v.ownBlock → wpList Try.prog ops Q rest (a.put o.dst v') w') :
    wpList Try.prog ops Q (o :: rest) a w := by
  obtain ⟨i0, hi, hz0, hz1, hz2⟩ := info_parts info_span
  unfold RdP at hr
  rw [hn] at hr
  refine wpList_append_any w hgd sl x 39 ho base 41 i0 (.agg #[.string ⟨#[]⟩, .string ⟨#[]⟩]) 2 32 Try.underlying39 hi hz0 hz1 hz2 rfl (by decide) v S.length (S.flatMap spL) hs hown _ A n c (l.flatMap spL) hx hr (flat_one l) (by unfold maxLen; omega) (by omega) hbase ?_
  intro v' w' h1 h2 _
  refine h v' w' ?_ h2
  unfold OwnP
  rw [List.flatMap_append, List.length_append, hn]
  exact h1

set_option maxRecDepth 100000 in
theorem spans_Grow (n : Nat) (hn : n ≤ 1000000) (w : World) : Calls Try.prog 69 #[.slice none 0 0, .int .i64 n] w fun e w' => ∃ A c, e = .returned (.slice A 0 c) ∧ OwnP 41 w' w.heap.size (.slice A 0 c) [] ∧ Below w.heap.size w w' := by
  rcases Nat.eq_zero_or_pos n with rfl | h0
  · have h := Any8.slices_Grow_room (P := Try.prog) (ρ := Try.growP_ren) Try.growP none 0 0 0 w (Nat.le_refl _) (by decide) (by decide) (Nat.le_refl _)
    refine h.mono ?_
    rintro e w' ⟨rfl, rfl⟩
    exact ⟨none, 0, rfl, OwnP.nil_ _ _ _, Below.refl _ _⟩
  · obtain ⟨i0, hi, hz0, hz1, hz2⟩ := info_parts info_span
    have h := Any8.slices_Grow_grow (P := Try.prog) (ρ := Try.growP_ren) Try.growP i0 (.agg #[.string ⟨#[]⟩, .string ⟨#[]⟩]) hi hz0 (by rw [hz1]; decide) none 0 0 n [] w (Nat.le_refl _) (by omega) (by rw [hz2]; omega) (by omega) (by simp) (fun _ => rfl) (fun a h => by cases h)
    refine h.mono ?_
    rintro e w' ⟨rfl, rfl⟩
    refine ⟨_, _, rfl, ?_, ((Below.refl w.heap.size w).drew).alloc (Nat.le_refl _) _⟩
    obtain ⟨G, hG⟩ : ∃ G, grownCap w (0 + n) 0 41 = G := ⟨_, rfl⟩
    have hG1 : n ≤ G := by have := grownCap_ge w (0 + n) 0 41; rw [hG] at this; omega
    have hG2 : G ≤ maxLen := by
      have := grownCap_le_maxLen w (0 + n) 0 41 (by unfold maxLen; omega)
      rwa [hG] at this
    have hm := World.ownsRow_made (base := w.heap.size) (e := 41) (size := 2) w.drew ((([] : List Value).toArray ++ Builtin.zeroCells #[.string ⟨#[]⟩, .string ⟨#[]⟩] (0 + n - 0) ++ Builtin.zeroCells #[.string ⟨#[]⟩, .string ⟨#[]⟩] (G - (0 + n)))) G (Nat.le_refl _) hG2 (by
      simp [Builtin.zeroCells]
      omega)
    show OwnP _ (w.drew.alloc (.cells _ 41)) _ (.slice _ 0 (grownCap w (0 + n) 0 41)) []
    rw [show grownCap w (0 + n) 0 (Try.growP_ren.t 25) = G from hG, hG]
    exact hm

set_option maxRecDepth 100000 in
set_option maxHeartbeats 2000000 in
theorem spans_Concat (g : Nat) (A1 A2 : Option Addr) (n1 n2 c1 c2 : Nat) (l1 l2 : List Sp) (w : World) (q0 : w.cell? ⟨g, 0, none⟩ = some (.slice A1 n1 c1)) (q1 : w.cell? ⟨g, 1, none⟩ = some (.slice A2 n2 c2))
    (h1 : RdP w A1 l1) (h2 : RdP w A2 l2) (e1 : l1.length = n1) (e2 : l2.length = n2) (hm : n1 ≤ 100000) (hm2 : n2 ≤ 100000) :
    Calls Try.prog 59 #[.slice (some ⟨g, 0, none⟩) 2 2] w (FreshP w (l1 ++ l2)) := by
  have H1 := Lib.hid h1
  have H2 := Lib.hid h2
  have E1 := Lib.hid e1
  have E2 := Lib.hid e2
  have Q0 := Lib.hid q0
  have Q1 := Lib.hid q1
  clear h1 h2 e1 e2
  have HG := Lib.hid (fun W => spans_Grow (n1 + n2) (by omega) W)
  go_enter Try.func59, Try.ntmps59
  go_wp2_with fail
  refine wp_loop_rounds 3 ?_
  rw [rounds_succ]
  go_wp2_with fail
  rw [rounds_succ]
  go_wp2_with fail
  rw [rounds_succ]
  go_wp2_with fail
  have hs : ((n1 : Int) + (n2 : Int)) = ((n1 + n2 : Nat) : Int) := by omega
  rw [hs]
  refine (HG.out w).mono ?_
  rintro e w1 ⟨A, c, rfl, o1, b1⟩
  have p0 := hb_cell b1 Q0.out
  have p1 := hb_cell b1 Q1.out
  have r1 := H1.out.below b1
  have r2 := H2.out.below b1
  clear q0 q1 hs HG
  go_wp2_with fail
  refine wp_loop_rounds 3 ?_
  rw [rounds_succ]
  go_wp2_with (at_builtin; go_must (refine append_spans w1 rfl _ _ rfl w.heap.size _ [] rfl o1 A1 n1 c1 l1 rfl r1 E1.out (by simp) (by omega) b1.size ?_); intro v2 w2 o2 g2; have b2 := Below.grown b1 g2 b1.size (fun q hq => (o1.lt q hq).1); have p2 := hb_cell b2 Q1.out; have r3 := H2.out.below b2)
  rw [rounds_succ]
  go_wp2_with (at_builtin; go_must (refine append_spans w2 rfl _ _ rfl w.heap.size _ _ rfl o2 A2 n2 c2 l2 rfl r3 E2.out (by rw [List.nil_append, E1.out]; omega) (by omega) b2.size ?_); intro v3 w3 o3 g3; have b3 := Below.grown b2 g3 b2.size (fun q hq => (o2.lt q hq).1))
  rw [rounds_succ]
  go_wp2_with fail
  go_ret
  exact ⟨v3, rfl, o3, b3⟩

/-- A set handed back. -/
def SetE (w : World) (R : List Sp) (e : Ending) (w' : World) : Prop := ∃ v, e = .returned (.agg #[v]) ∧ OwnP 41 w' w.heap.size v R ∧ Below w.heap.size w w'

set_option maxRecDepth 100000 in
set_option maxHeartbeats 400000 in
theorem spans_Join (A1 A2 : Option Addr) (n1 n2 c1 c2 : Nat) (l1 l2 : List Sp) (w : World) (h1 : RdP w A1 l1) (h2 : RdP w A2 l2) (e1 : l1.length = n1) (e2 : l2.length = n2) (hm : n1 ≤ 40000) (hm2 : n2 ≤ 40000) :
    Calls Try.prog 32 #[.agg #[.slice A1 n1 c1], .agg #[.slice A2 n2 c2]] w (SetE w (ofS (l1 ++ l2))) := by
  obtain ⟨R, hR⟩ : ∃ R, ofS (l1 ++ l2) = R := ⟨_, rfl⟩
  rw [hR]
  have HR := Lib.hid hR
  clear hR
  obtain ⟨Wa, hWa⟩ : ∃ Wa, w.alloc (.cells #[.slice A1 n1 c1] 43) = Wa := ⟨_, rfl⟩
  obtain ⟨Wb, hWb⟩ : ∃ Wb, Wa.alloc (.cells #[.slice A2 n2 c2] 43) = Wb := ⟨_, rfl⟩
  obtain ⟨W, hW⟩ : ∃ W, Wb.alloc (.cells #[.slice none 0 0] 43) = W := ⟨_, rfl⟩
  have sa : Wa.heap.size = w.heap.size + 1 := by rw [← hWa, World.size_alloc]
  have sb : Wb.heap.size = w.heap.size + 2 := by rw [← hWb, World.size_alloc, sa]
  have B0a : Blk Wa w.heap.size 43 #[.slice A1 n1 c1] := by rw [← hWa]; exact Blk.new _ _ _
  have B1b : Blk Wb (w.heap.size + 1) 43 #[.slice A2 n2 c2] := by rw [← hWb, ← sa]; exact Blk.new _ _ _
  have B2 : Blk W (w.heap.size + 2) 43 #[.slice none 0 0] := by rw [← hW, ← sb]; exact Blk.new _ _ _
  have ba : Below w.heap.size w Wa := by rw [← hWa]; exact (Below.refl _ _).alloc (Nat.le_refl _) _
  have bb : Below Wa.heap.size Wa Wb := by rw [← hWb]; exact (Below.refl _ _).alloc (Nat.le_refl _) _
  have bc : Below Wb.heap.size Wb W := by rw [← hW]; exact (Below.refl _ _).alloc (Nat.le_refl _) _
  have B1 := B1b.below bc B1b.lt
  have B0 := (B0a.below bb B0a.lt).below bc (by omega)
  have bA : Below w.heap.size w W := (ba.trans (bb.mono ba.size)).trans (bc.mono (by omega))
  have HWW := Lib.hid (And.intro hWa (And.intro hWb hW))
  have H1 := Lib.hid (h1.below bA)
  have H2 := Lib.hid (h2.below bA)
  have E1 := Lib.hid e1
  have E2 := Lib.hid e2
  clear h1 h2 e1 e2 sa sb ba bb bc B0a B1b hWa hWb hW
  go_enter Try.func32, Try.ntmps32
  go_upto_region 1 with fail
  rw [HWW.out.1, HWW.out.2.1, HWW.out.2.2]
  clear HWW
  have q0 := B0.cell 0
  have q1 := B1.cell 0
  have BS := Blk.new W 39 #[.slice A1 n1 c1, .slice A2 n2 c2]
  have bS := (Below.refl W.heap.size W).alloc (Nat.le_refl _) (.cells #[.slice A1 n1 c1, .slice A2 n2 c2] 39)
  have hsW : w.heap.size + 2 < W.heap.size := B2.lt
  go_wp2_with fail
  refine (spans_Concat W.heap.size A1 A2 n1 n2 c1 c2 l1 l2 _ (BS.cell 0) (BS.cell 1) (H1.out.below bS) (H2.out.below bS) E1.out E2.out (by omega) (by omega)).mono ?_
  rintro e w1 ⟨v1, rfl, o1, b1⟩
  have b1' := bS.trans (b1.mono bS.size)
  obtain ⟨N, hN⟩ : ∃ N, (l1 ++ l2).length = N := ⟨_, rfl⟩
  have hNn : N ≤ 80000 := by
    rw [List.length_append, E1.out, E2.out] at hN
    omega
  obtain ⟨A, c, hv, hc, hA, hr⟩ := o1.reads
  rw [hN] at hv
  subst hv
  have HR1 := Lib.hid hr
  have HN := Lib.hid hN
  clear hr hN o1 hc
  go_wp2_with fail
  refine (spans_Of A N c (l1 ++ l2) w1 HR1.out HN.out hA (by omega)).mono ?_
  rintro e w2 ⟨v2, rfl, o2, b2⟩
  rw [HR.out] at o2
  have b2' := b1'.trans (b2.mono b1'.size)
  have B3 := B2.below b2' B2.lt
  obtain ⟨A5, c5, rfl, -, -, -⟩ := o2.form
  have q2 := B3.cell 0
  have f2 := B3.frozen 0
  have hs2 := b1'.size
  go_wp2_with fail
  refine bodyPost_ret (v := .agg #[.slice A5 R.length c5]) (results_cell_row (P := Try.prog) Try.results32 _ _ (w.heap.size + 2) 43 #[.slice A5 R.length c5] (0, 0) _ rfl (B3.set_ 0 _) Try.underlying43 rfl (by kernel_rfl)) rfl ?_
  exact ⟨_, rfl, (own_set0 o2 (by omega)).base_le (by omega), below_set (bA.trans (b2'.mono (by omega))) (by omega) _ _⟩
end Go.Proofs.Ytomefcngaclehaa
