/- Contracts of mut.Same, mut.Covers, mut.Copies and of the reference's Covers and Same. Contract of mut.Copies. -/
import Derived.Test.YtfkooohnaodjmaaMutG
import Derived.Test.YtfkooohnaodjmaaMutD
import Derived.Test.YtfkooohnaodjmaaHang
import Derived.Test.YtfkooohnaodjmaaNumsC
import Derived.Laws.MakeOwn
namespace Go.Proofs.Ytfkooohnaodjmaa
open Go.RowKit Go.Sort

set_option maxRecDepth 100000 in
set_option maxHeartbeats 2000000 in
theorem mut_Same (m1 m2 : Mut) (A1 A2 : Option Addr) (n1 c1 n2 c2 : Nat) (w : World) (hr1 : Reads w w.heap.size 3 A1 n1 (m1.ov.flatMap sc)) (hr2 : Reads w w.heap.size 3 A2 n2 (m2.ov.flatMap sc)) (hn1 : n1 ≤ 1000000000) :
    Calls Try.prog 21 #[.agg (mutC m1 (.slice A1 n1 c1)), .agg (mutC m2 (.slice A2 n2 c2))] w fun e w' => e = .returned (.bool (cmpM m1 m2 == 0)) ∧ Below w.heap.size w w' := by
  have BK1 := (Blk.new w 33 (mutC m1 (.slice A1 n1 c1))).alloc (.cells (mutC m2 (.slice A2 n2 c2)) 33)
  have BK2 := Blk.new (w.alloc (.cells (mutC m1 (.slice A1 n1 c1)) 33)) 33 (mutC m2 (.slice A2 n2 c2))
  have hB : Below w.heap.size w ((w.alloc (.cells (mutC m1 (.slice A1 n1 c1)) 33)).alloc (.cells (mutC m2 (.slice A2 n2 c2)) 33)) := ((Below.refl _ _).alloc (Nat.le_refl _) _).alloc (by simp) _
  have HR1 := Lib.hid (((hr1.alloc (Nat.le_refl _) (.cells (mutC m1 (.slice A1 n1 c1)) 33)).alloc (by simp) (.cells (mutC m2 (.slice A2 n2 c2)) 33)).more hB.size)
  have HR2 := Lib.hid (((hr2.alloc (Nat.le_refl _) (.cells (mutC m1 (.slice A1 n1 c1)) 33)).alloc (by simp) (.cells (mutC m2 (.slice A2 n2 c2)) 33)).more hB.size)
  simp only [World.size_alloc] at BK2
  clear hr1 hr2
  have C := Lib.hid (mut_Compare m1 m2 A1 A2 n1 c1 n2 c2 _ HR1.out HR2.out hn1)
  go_enter Try.func21, Try.ntmps21
  go_upto_region 1 with fail
  generalize ((w.alloc (.cells (mutC m1 (.slice A1 n1 c1)) 33)).alloc (.cells (mutC m2 (.slice A2 n2 c2)) 33)) = W at *
  have q0 : W.cell? ⟨w.heap.size, 0, none⟩ = some (.int .i64 m1.tab) := BK1.cell 0
  have q1 : W.cell? ⟨w.heap.size, 1, none⟩ = some (.int .i64 m1.kind) := BK1.cell 1
  have q2 : W.cell? ⟨w.heap.size, 2, none⟩ = some (.string m1.key) := BK1.cell 2
  have q3 : W.cell? ⟨w.heap.size, 3, none⟩ = some (.string m1.en) := BK1.cell 3
  have q4 : W.cell? ⟨w.heap.size, 4, none⟩ = some (.string m1.val) := BK1.cell 4
  have q5 : W.cell? ⟨w.heap.size, 5, none⟩ = some (.int .i64 m1.exp) := BK1.cell 5
  have q6 : W.cell? ⟨w.heap.size, 6, none⟩ = some (.int .i64 m1.at_.1) := BK1.cell 6
  have q7 : W.cell? ⟨w.heap.size, 7, none⟩ = some (.int .i64 m1.at_.2.1) := BK1.cell 7
  have q8 : W.cell? ⟨w.heap.size, 8, none⟩ = some (.int .i64 m1.at_.2.2) := BK1.cell 8
  have q9 : W.cell? ⟨w.heap.size, 9, none⟩ = some (.slice A1 n1 c1) := BK1.cell 9
  have t0 : W.cell? ⟨w.heap.size + 1, 0, none⟩ = some (.int .i64 m2.tab) := BK2.cell 0
  have t1 : W.cell? ⟨w.heap.size + 1, 1, none⟩ = some (.int .i64 m2.kind) := BK2.cell 1
  have t2 : W.cell? ⟨w.heap.size + 1, 2, none⟩ = some (.string m2.key) := BK2.cell 2
  have t3 : W.cell? ⟨w.heap.size + 1, 3, none⟩ = some (.string m2.en) := BK2.cell 3
  have t4 : W.cell? ⟨w.heap.size + 1, 4, none⟩ = some (.string m2.val) := BK2.cell 4
  have t5 : W.cell? ⟨w.heap.size + 1, 5, none⟩ = some (.int .i64 m2.exp) := BK2.cell 5
  have t6 : W.cell? ⟨w.heap.size + 1, 6, none⟩ = some (.int .i64 m2.at_.1) := BK2.cell 6
  have t7 : W.cell? ⟨w.heap.size + 1, 7, none⟩ = some (.int .i64 m2.at_.2.1) := BK2.cell 7
  have t8 : W.cell? ⟨w.heap.size + 1, 8, none⟩ = some (.int .i64 m2.at_.2.2) := BK2.cell 8
  have t9 : W.cell? ⟨w.heap.size + 1, 9, none⟩ = some (.slice A2 n2 c2) := BK2.cell 9
  go_wp2_with fail
  refine C.out.mono ?_
  rintro x w2 ⟨rfl, b2⟩
  go_wp2_with fail
  go_ret
  exact ⟨rfl, hB.trans (b2.mono hB.size)⟩

/-- Is a key within what a mutation wipes? -/
def covB (m : Mut) (key : ByteArray) : Bool := (m.kind == 3) && (!(Op.bytesLess key.toList m.key.toList) && Op.bytesLess key.toList m.en.toList)
theorem textLt_of {a b : ByteArray} (h : Op.bytesLess a.toList b.toList = true) : Op.bytesLess b.toList a.toList = false ∧ (b.toList == a.toList) = false := by
  rw [bytesLess_eq] at h ⊢
  have h := of_decide_eq_true h
  refine ⟨decide_eq_false (fun h' => List.lt_asymm h h'), ?_⟩
  rw [beq_eq_false_iff_ne]
  intro e
  rw [e] at h
  exact List.lt_irrefl _ h
theorem textLe_eq (a b : ByteArray) : (Op.bytesLess a.toList b.toList || a.toList == b.toList) = !(Op.bytesLess b.toList a.toList) := by
  rcases cmpT_cases a b with ⟨h1, _⟩ | ⟨h1, h2, _⟩ | ⟨h1, h2, _⟩
  · rw [h1, (textLt_of h1).1]; rfl
  · have h3 : Op.bytesLess b.toList a.toList = true := by
      cases h3 : Op.bytesLess b.toList a.toList with
      | true => rfl
      | false =>
        exfalso
        rw [bytesLess_eq] at h1 h3
        have h1 := of_decide_eq_false h1
        have h3 := of_decide_eq_false h3
        rw [beq_eq_false_iff_ne] at h2
        exact h2 (List.le_antisymm (List.not_lt.1 h3) (List.not_lt.1 h1))
    rw [h1, h2, h3]; rfl
  · have e : a.toList = b.toList := by simpa using h2
    rw [h1, h2, e, bytesLess_eq]
    simp

/-- What hangs on a row of mutations: the stamps of each. -/
abbrev HangM (w : World) (own : Option Nat) (L : List MutS) : Prop := Hangs 3 (fun e : MutS => e.A) (fun e : MutS => e.n) (fun e : MutS => e.m.ov.flatMap sc) w own L
/-- A row of mutations that can be read, as the mutations M. -/
def RdM (w : World) (A : Option Addr) (n : Nat) (M : List Mut) : Prop := ∃ L : List MutS, L.map (·.m) = M ∧ Reads w w.heap.size 10 A n (L.flatMap mutL) ∧ HangM w none L ∧ ∀ e ∈ L, e.n ≤ 1000000000 ∧ (e.A = none → e.c = 0)
theorem RdM.below {w w' : World} {A : Option Addr} {n : Nat} {M : List Mut} (h : RdM w A n M) (b : Below w.heap.size w w') : RdM w' A n M := by
  obtain ⟨L, h1, h2, h3, h4⟩ := h
  exact ⟨L, h1, (h2.below b).more b.size, h3.below b, h4⟩
theorem RdM.n_eq {w : World} {A : Option Addr} {n : Nat} {M : List Mut} (h : RdM w A n M) : M.length = n := by
  obtain ⟨L, h1, h2, _⟩ := h
  rw [← h1, List.length_map]
  exact muts_n h2
/-- Are two rows of mutations the same? -/
def sameM (l1 l2 : List Mut) : Bool := decide (l1.length = l2.length) && (List.zip l1 l2).all fun p => cmpM p.1 p.2 == 0

theorem sameM_step {l1 l2 : List Mut} (k : Nat) (hl : l1.length = l2.length) (h1 : k < l1.length) (h2 : k < l2.length) : sameM (l1.drop k) (l2.drop k) = ((cmpM l1[k] l2[k] == 0) && sameM (l1.drop (k + 1)) (l2.drop (k + 1))) := by
  unfold sameM
  rw [decide_eq_true (by simp [hl] : (l1.drop k).length = (l2.drop k).length), decide_eq_true (by simp [hl] : (l1.drop (k + 1)).length = (l2.drop (k + 1)).length), List.drop_eq_getElem_cons h1, List.drop_eq_getElem_cons h2, List.zip_cons_cons, List.all_cons]
  simp only [Bool.true_and]
theorem sameM_end {l1 l2 : List Mut} (k : Nat) (h1 : l1.length ≤ k) (h2 : l2.length ≤ k) : sameM (l1.drop k) (l2.drop k) = true := by
  rw [List.drop_of_length_le h1, List.drop_of_length_le h2]
  rfl

set_option maxRecDepth 100000 in
set_option maxHeartbeats 2000000 in
theorem ref07_Same (A1 A2 : Option Addr) (n1 c1 n2 c2 : Nat) (M1 M2 : List Mut) (w : World) (h1 : RdM w A1 n1 M1) (h2 : RdM w A2 n2 M2) (hn1 : n1 ≤ 1000000000) :
    Calls Try.prog 27 #[.slice A1 n1 c1, .slice A2 n2 c2] w fun e w' => e = .returned (.bool (sameM M1 M2)) ∧ Below w.heap.size w w' := by
  have e1 := h1.n_eq
  have e2 := h2.n_eq
  obtain ⟨Q, hQ⟩ : ∃ Q, sameM M1 M2 = Q := ⟨_, rfl⟩
  have HQ := Lib.hid hQ
  rw [hQ]
  clear hQ
  by_cases hne : n1 ≠ n2
  · have hd : ((n1 : Int) != (n2 : Int)) = true := by simp; omega
    have HF : Hid (Q = false) := Lib.hid (by rw [← HQ.out]; unfold sameM; rw [decide_eq_false (by omega)]; rfl)
    clear h1 h2 hne e1 e2
    go_enter Try.func27, Try.ntmps27
    go_wp2_with fail
    go_ret
    exact ⟨by rw [HF.out]; rfl, Below.refl _ _⟩
  have hn : n1 = n2 := by omega
  have hd : ((n1 : Int) != (n2 : Int)) = false := by simp; omega
  obtain ⟨L1, rfl, r1, g1, z1⟩ := h1
  obtain ⟨L2, rfl, r2, g2, z2⟩ := h2
  rw [List.length_map] at e1 e2
  have H1 := Lib.hid (And.intro r1 (And.intro g1 z1))
  have H2 := Lib.hid (And.intro r2 (And.intro g2 z2))
  have E1 := Lib.hid e1
  have E2 := Lib.hid (e2.trans hn.symm)
  have HN := Lib.hid hn
  clear r1 g1 z1 r2 g2 z2 e1 e2 hne hn
  have hB := Below.refl w.heap.size w
  have HD0 : Hid (sameM ((L1.map (·.m)).drop 0) ((L2.map (·.m)).drop 0) = Q) := Lib.hid (by rw [List.drop_zero, List.drop_zero]; exact HQ.out)
  go_enter Try.func27, Try.ntmps27
  go_wp2_with fail
  go_loopw [5] (fun v5 wr => ∃ k : Nat, v5 = .int .i64 k ∧ k ≤ n1 ∧ sameM ((L1.map (·.m)).drop k) ((L2.map (·.m)).drop k) = Q ∧ Below w.heap.size w wr) (fun v5 _ => n1 - (RowKit.intOf v5).toNat)
  case atStart => exact ⟨0, rfl, Nat.zero_le _, HD0.out, hB⟩
  case round =>
    clear hB HD0
    obtain ⟨k, rfl, hk, hd2, hB⟩ := hrel
    have HD := Lib.hid hd2
    clear hd2
    by_cases hkn : k < n1
    · have hk1 : k < L1.length := by have := E1.out; omega
      have hk2 : k < L2.length := by have := E2.out; omega
      have hk2n : k < n2 := by have := HN.out; omega
      obtain ⟨b1, o1, hA1, hb1, hc1⟩ := mut_at ((H1.out.1.below hB).more hB.size) hk1
      obtain ⟨b2, o2, hA2, hb2, hc2⟩ := mut_at ((H2.out.1.below hB).more hB.size) hk2
      subst hA1 hA2
      have hg1 := (H1.out.2.1 _ (List.getElem_mem hk1)).1
      have hg2 := (H2.out.2.1 _ (List.getElem_mem hk2)).1
      have hz1 := (H1.out.2.2 _ (List.getElem_mem hk1)).1
      have hst := sameM_step (l1 := L1.map (·.m)) (l2 := L2.map (·.m)) k (by rw [List.length_map, List.length_map]; have := E1.out; have := E2.out; omega) (by rw [List.length_map]; exact hk1) (by rw [List.length_map]; exact hk2)
      rw [List.getElem_map, List.getElem_map] at hst
      obtain ⟨x1, hx1⟩ : ∃ x, L1[k]'hk1 = x := ⟨_, rfl⟩
      obtain ⟨x2, hx2⟩ : ∃ x, L2[k]'hk2 = x := ⟨_, rfl⟩
      rw [hx1] at hst hc1 hg1 hz1
      rw [hx2] at hst hc2 hg2
      rw [HD.out] at hst
      have hg1' := (hg1.below hB).more hB.size
      have hg2' := (hg2.below hB).more hB.size
      have q0 := cell_regrown (show wr.cell? ⟨b1, o1 + k * 10, none⟩ = some (.int .i64 x1.m.tab) from hc1 0 _ (by decide) rfl)
      have q1 := cell_regrown (show wr.cell? ⟨b1, o1 + k * 10 + 1, none⟩ = some (.int .i64 x1.m.kind) from hc1 1 _ (by decide) rfl)
      have q2 := cell_regrown (show wr.cell? ⟨b1, o1 + k * 10 + 2, none⟩ = some (.string x1.m.key) from hc1 2 _ (by decide) rfl)
      have q3 := cell_regrown (show wr.cell? ⟨b1, o1 + k * 10 + 3, none⟩ = some (.string x1.m.en) from hc1 3 _ (by decide) rfl)
      have q4 := cell_regrown (show wr.cell? ⟨b1, o1 + k * 10 + 4, none⟩ = some (.string x1.m.val) from hc1 4 _ (by decide) rfl)
      have q5 := cell_regrown (show wr.cell? ⟨b1, o1 + k * 10 + 5, none⟩ = some (.int .i64 x1.m.exp) from hc1 5 _ (by decide) rfl)
      have q6 := cell_regrown (show wr.cell? ⟨b1, o1 + k * 10 + 6, none⟩ = some (.int .i64 x1.m.at_.1) from hc1 6 _ (by decide) rfl)
      have q7 := cell_regrown (show wr.cell? ⟨b1, o1 + k * 10 + 7, none⟩ = some (.int .i64 x1.m.at_.2.1) from hc1 7 _ (by decide) rfl)
      have q8 := cell_regrown (show wr.cell? ⟨b1, o1 + k * 10 + 8, none⟩ = some (.int .i64 x1.m.at_.2.2) from hc1 8 _ (by decide) rfl)
      have q9 := cell_regrown (show wr.cell? ⟨b1, o1 + k * 10 + 9, none⟩ = some (.slice x1.A x1.n x1.c) from hc1 9 _ (by decide) rfl)
      have t0 := cell_regrown (show wr.cell? ⟨b2, o2 + k * 10, none⟩ = some (.int .i64 x2.m.tab) from hc2 0 _ (by decide) rfl)
      have t1 := cell_regrown (show wr.cell? ⟨b2, o2 + k * 10 + 1, none⟩ = some (.int .i64 x2.m.kind) from hc2 1 _ (by decide) rfl)
      have t2 := cell_regrown (show wr.cell? ⟨b2, o2 + k * 10 + 2, none⟩ = some (.string x2.m.key) from hc2 2 _ (by decide) rfl)
      have t3 := cell_regrown (show wr.cell? ⟨b2, o2 + k * 10 + 3, none⟩ = some (.string x2.m.en) from hc2 3 _ (by decide) rfl)
      have t4 := cell_regrown (show wr.cell? ⟨b2, o2 + k * 10 + 4, none⟩ = some (.string x2.m.val) from hc2 4 _ (by decide) rfl)
      have t5 := cell_regrown (show wr.cell? ⟨b2, o2 + k * 10 + 5, none⟩ = some (.int .i64 x2.m.exp) from hc2 5 _ (by decide) rfl)
      have t6 := cell_regrown (show wr.cell? ⟨b2, o2 + k * 10 + 6, none⟩ = some (.int .i64 x2.m.at_.1) from hc2 6 _ (by decide) rfl)
      have t7 := cell_regrown (show wr.cell? ⟨b2, o2 + k * 10 + 7, none⟩ = some (.int .i64 x2.m.at_.2.1) from hc2 7 _ (by decide) rfl)
      have t8 := cell_regrown (show wr.cell? ⟨b2, o2 + k * 10 + 8, none⟩ = some (.int .i64 x2.m.at_.2.2) from hc2 8 _ (by decide) rfl)
      have t9 := cell_regrown (show wr.cell? ⟨b2, o2 + k * 10 + 9, none⟩ = some (.slice x2.A x2.n x2.c) from hc2 9 _ (by decide) rfl)
      clear hc1 hc2 hx1 hx2 hg1 hg2
      obtain ⟨r, hr⟩ : ∃ r, cmpM x1.m x2.m = r := ⟨_, rfl⟩
      rw [hr] at hst
      have k1 : ∀ d os, Calls Try.prog 11 #[.agg (mutC x1.m (.slice x1.A x1.n x1.c)), .agg (mutC x2.m (.slice x2.A x2.n x2.c))] (grow (redrawn wr d) os) fun e w'' => e = .returned (.int .i64 r) ∧ ∃ p : Regrown, w'' = grow (redrawn wr p.d) p.os := fun d os => Calls.regrown_of (by
        have bz := below_regrown wr d os
        have h9 := ref07_Compare x1.m x2.m x1.A x2.A x1.n x1.c x2.n x2.c _ ((hg1'.below bz).more bz.size) ((hg2'.below bz).more bz.size) hz1
        rw [hr] at h9
        exact h9)
      unfold mutC at k1
      have HST := Lib.hid hst
      clear hst hr hg1' hg2' hz1
      have hr0 : (r = 0 ∧ (r != 0) = false) ∨ (¬ r = 0 ∧ (r != 0) = true) := by
        by_cases h : r = 0
        · exact .inl ⟨h, by simp [h]⟩
        · exact .inr ⟨h, by simp [h]⟩
      rcases hr0 with ⟨hr0, hrd⟩ | ⟨hr0, hrd⟩
      · have HX : Hid (sameM ((L1.map (·.m)).drop (k + 1)) ((L2.map (·.m)).drop (k + 1)) = Q) := Lib.hid (by rw [HST.out, hr0]; simp)
        clear hr0
        go_upto_region 6 with fail
        refine wp_region_quiet_below (by kernel_rfl) (by kernel_rfl) ?_
        repeat (go_big_quiet_step (with_reducible exact k1 _ _))
        refine wpQuiet_nil ?_
        intro _ hw'
        obtain ⟨⟨dq, osq⟩, hw''⟩ := hw'
        subst hw''
        replace hB := below_regrown_of hB hB.size dq osq
        generalize grow (redrawn wr dq) osq = W2 at *
        go_wp2_with fail
        go_roundw
        case rel => exact ⟨k + 1, by go_num, by omega, HX.out, hB⟩
        case measure => simp [RowKit.intOf]; omega
      · have HX : Hid (Q = false) := Lib.hid (by rw [HST.out]; simp [hr0])
        clear hr0
        go_upto_region 6 with fail
        refine wp_region_quiet_below (by kernel_rfl) (by kernel_rfl) ?_
        repeat (go_big_quiet_step (with_reducible exact k1 _ _))
        refine wpQuiet_nil ?_
        intro _ hw'
        obtain ⟨⟨dq, osq⟩, hw''⟩ := hw'
        subst hw''
        replace hB := below_regrown_of hB hB.size dq osq
        generalize grow (redrawn wr dq) osq = W2 at *
        go_wp2_with fail
        go_ret
        exact ⟨by rw [HX.out]; rfl, hB⟩
    · have HX : Hid (Q = true) := Lib.hid (by rw [← HD.out]; exact sameM_end k (by rw [List.length_map]; have := E1.out; omega) (by rw [List.length_map]; have := E2.out; omega))
      go_wp2_with fail
      go_ret
      exact ⟨by rw [HX.out]; rfl, hB⟩
end Go.Proofs.Ytfkooohnaodjmaa

namespace Go.Proofs.Ytfkooohnaodjmaa
open Go.RowKit Go.Sort

theorem info_mut : (Try.prog.info? 33).map (fun i => (i.zero, i.size, i.bytes)) = some (some (.agg #[.int .i64 0, .int .i64 0, .string ⟨#[]⟩, .string ⟨#[]⟩, .string ⟨#[]⟩, .int .i64 0, .int .i64 0, .int .i64 0, .int .i64 0, .slice none 0 0]), 10, 120) := by kernel_rfl
theorem mutL_one (e : MutS) : ∀ u ∈ mutL e, u.oneCell' = true := by
  intro u hu
  simp only [mutL, List.mem_cons, List.mem_nil_iff, or_false] at hu
  rcases hu with rfl | rfl | rfl | rfl | rfl | rfl | rfl | rfl | rfl | rfl <;> rfl
theorem flat_snoc {α : Type} (L : List α) (e : α) (f : α → List Value) : (L ++ [e]).flatMap f = L.flatMap f ++ f e := by simp
/-- A row of mutations that the call owns. -/
structure OwnM (w : World) (base lo : Nat) (v : Value) (M : List Mut) : Prop where
  row : ∃ L : List MutS, L.map (·.m) = M ∧ w.ownsRow base 33 10 v L.length (L.flatMap mutL) ∧ HangM w v.ownBlock L ∧ (∀ e ∈ L, e.n ≤ 1000000000 ∧ (e.A = none → e.c = 0)) ∧ ∀ e ∈ L, ∀ ad, e.A = some ad → lo ≤ ad.block ∧ ad.block < w.heap.size
theorem OwnM.rd {w : World} {base lo : Nat} {v : Value} {M : List Mut} (h : OwnM w base lo v M) : ∃ A c, v = .slice A M.length c ∧ M.length ≤ c ∧ (A = none → c = 0) ∧ RdM w A M.length M := by
  obtain ⟨L, rfl, h1, h2, h3, h4⟩ := h.row
  obtain ⟨A, c, rfl, hc, hn, -⟩ := own_form h1
  rw [List.length_map]
  exact ⟨A, c, rfl, hc, hn, L, rfl, Reads.of_own h1, h2.free, h3⟩
theorem OwnM.lt {w : World} {base lo : Nat} {v : Value} {M : List Mut} (h : OwnM w base lo v M) : ∀ k, v.ownBlock = some k → base ≤ k ∧ k < w.heap.size := by
  obtain ⟨L, rfl, h1, h2, h3, h4⟩ := h.row
  exact World.ownsRow.lt h1
theorem OwnM.below {w w' : World} {base lo : Nat} {v : Value} {M : List Mut} (h : OwnM w base lo v M) (b : Below w.heap.size w w') : OwnM w' base lo v M := by
  obtain ⟨L, rfl, h1, h2, h3, h4⟩ := h.row
  exact ⟨L, rfl, own_below h1 b, h2.below b, h3, fun e he ad hA => ⟨(h4 e he ad hA).1, Nat.lt_of_lt_of_le (h4 e he ad hA).2 b.size⟩⟩
theorem OwnM.nil_ (w : World) (base lo : Nat) : OwnM w base lo (.slice none 0 0) [] := ⟨[], rfl, World.ownsRow_nil _ _ _ _, Hangs.nil_, fun _ h => by (cases h), fun _ h => by cases h⟩
theorem OwnM.grown_g {w w' : World} {base lo g : Nat} {v : Value} {M : List Mut} (h : OwnM w base lo v M) (G : w.grownBy w' (some g)) (hg : g < base) (hl : g < lo) : OwnM w' base lo v M := by
  obtain ⟨L, rfl, h1, h2, h3, h4⟩ := h.row
  refine ⟨L, rfl, World.ownsRow.kept h1 G ?_, h2.other G (fun e he ad hA e2 => ?_), h3, fun e he ad hA => ⟨(h4 e he ad hA).1, Nat.lt_of_lt_of_le (h4 e he ad hA).2 G.size⟩⟩
  · cases e : v.ownBlock with
    | none => exact .inl rfl
    | some k => exact .inr (fun e2 => by injection e2 with e2; have := (World.ownsRow.lt h1 k e).1; omega)
  · injection e2 with e2
    have := (h4 e he ad hA).1
    omega
theorem OwnM.base_le {w : World} {base base' lo : Nat} {v : Value} {M : List Mut} (h : OwnM w base lo v M) (hb : base' ≤ base) : OwnM w base' lo v M := by
  obtain ⟨L, rfl, h1, h2, h3, h4⟩ := h.row
  exact ⟨L, rfl, own_base h1 hb, h2, h3, h4⟩
/-- 'append(out, m)' of a mutation whose stamps lie elsewhere. -/
theorem append_mut {ops : Array Oper} {rest : List Oper} {o : Oper} {a : Act} {Q : Exit → Act → World → Prop} (w : World) (x : Mut) (A : Option Addr) (n c : Nat) (hgd : o.guard = none) (s y : Operand)
    (ho : o.op = .call { callee := .builtin .append, args := #[s, y], argTypes := #[40, 40] }) (base lo : Nat) (v : Value) (M : List Mut) (hs : a.eval s = v) (hown : OwnM w base lo v M)
    (hr : Reads w w.heap.size 3 A n (x.ov.flatMap sc)) (hne : ∀ ad, A = some ad → v.ownBlock ≠ some ad.block) (hlt : ∀ ad, A = some ad → lo ≤ ad.block ∧ ad.block < w.heap.size) (hz : n ≤ 1000000000 ∧ (A = none → c = 0))
    (hx : a.eval y = .slice (some ⟨w.heap.size, 0, none⟩) 1 1) (hlen : M.length ≤ 1000000000) (hbase : base ≤ w.heap.size)
    (h : ∀ v' w', OwnM w' base lo v' (M ++ [x]) → (w.alloc (.cells (mutC x (.slice A n c)) 33)).grownBy w' v.ownBlock → LiesIn (w.alloc (.cells (mutC x (.slice A n c)) 33)) v v' → wpList Try.prog ops Q rest (a.put o.dst v') w') : wpList Try.prog ops Q (o :: rest) a (w.alloc (.cells (mutC x (.slice A n c)) 33)) := by
  obtain ⟨L, hL, h1, h2, h3, h4⟩ := hown.row
  have hll : L.length = M.length := by rw [← hL, List.length_map]
  refine append_elem_b w (mutC x (.slice A n c)) (mutL ⟨x, A, n, c⟩) rfl 33 hgd s y 40 ho base 33 (.agg #[.int .i64 0, .int .i64 0, .string ⟨#[]⟩, .string ⟨#[]⟩, .string ⟨#[]⟩, .int .i64 0, .int .i64 0, .int .i64 0, .int .i64 0, .slice none 0 0]) 10 120 Try.underlying40 info_mut rfl (by decide) v L.length (L.flatMap mutL) hs h1 rfl (mutL_one _) hx (by unfold maxLen; omega) (by omega) hbase ?_
  intro v' w' g1 g2 g3
  refine h v' w' ⟨L ++ [⟨x, A, n, c⟩], by simp [hL], ?_, ?_, ?_, ?_⟩ g2 g3
  · rw [flat_snoc, List.length_append]
    exact g1
  · have ba : Below w.heap.size w (w.alloc (.cells (mutC x (.slice A n c)) 33)) := (Below.refl _ _).alloc (Nat.le_refl _) _
    have hs1 := Hangs.snoc (e := (⟨x, A, n, c⟩ : MutS)) h2 hr hne
    refine (Hangs.moved (hs1.below ba) g2 g3 ?_)
    intro e he ad hA
    rw [World.size_alloc]
    rcases List.mem_append.1 he with he | he
    · exact Nat.lt_succ_of_lt (h4 e he ad hA).2
    · rw [List.mem_singleton.1 he] at hA
      exact Nat.lt_succ_of_lt (hlt ad hA).2
  · intro e he
    rcases List.mem_append.1 he with he | he
    · exact h3 e he
    · rw [List.mem_singleton.1 he]
      exact hz
  · intro e he ad hA
    have hs9 : w.heap.size ≤ w'.heap.size := Nat.le_trans (by rw [World.size_alloc]; omega) g2.size
    rcases List.mem_append.1 he with he | he
    · exact ⟨(h4 e he ad hA).1, Nat.lt_of_lt_of_le (h4 e he ad hA).2 hs9⟩
    · rw [List.mem_singleton.1 he] at hA
      exact ⟨(hlt ad hA).1, Nat.lt_of_lt_of_le (hlt ad hA).2 hs9⟩
/-- Likewise, the element's cells as they were reckoned. -/
theorem append_mut_u {ops : Array Oper} {rest : List Oper} {o : Oper} {a : Act} {Q : Exit → Act → World → Prop} (w : World) (x : Mut) (A : Option Addr) (n c : Nat) (u : Array Value) (hu : u = mutC x (.slice A n c)) (hgd : o.guard = none) (s y : Operand)
    (ho : o.op = .call { callee := .builtin .append, args := #[s, y], argTypes := #[40, 40] }) (base lo : Nat) (v : Value) (M : List Mut) (hs : a.eval s = v) (hown : OwnM w base lo v M)
    (hr : Reads w w.heap.size 3 A n (x.ov.flatMap sc)) (hne : ∀ ad, A = some ad → v.ownBlock ≠ some ad.block) (hlt : ∀ ad, A = some ad → lo ≤ ad.block ∧ ad.block < w.heap.size) (hz : n ≤ 1000000000 ∧ (A = none → c = 0))
    (hx : a.eval y = .slice (some ⟨w.heap.size, 0, none⟩) 1 1) (hlen : M.length ≤ 1000000000) (hbase : base ≤ w.heap.size)
    (h : ∀ v' w', OwnM w' base lo v' (M ++ [x]) → (w.alloc (.cells u 33)).grownBy w' v.ownBlock → LiesIn (w.alloc (.cells u 33)) v v' → wpList Try.prog ops Q rest (a.put o.dst v') w') : wpList Try.prog ops Q (o :: rest) a (w.alloc (.cells u 33)) := by
  obtain ⟨L, hL, h1, h2, h3, h4⟩ := hown.row
  have hll : L.length = M.length := by rw [← hL, List.length_map]
  refine append_elem_b w u (mutL ⟨x, A, n, c⟩) (by rw [hu]; rfl) 33 hgd s y 40 ho base 33 (.agg #[.int .i64 0, .int .i64 0, .string ⟨#[]⟩, .string ⟨#[]⟩, .string ⟨#[]⟩, .int .i64 0, .int .i64 0, .int .i64 0, .int .i64 0, .slice none 0 0]) 10 120 Try.underlying40 info_mut rfl (by decide) v L.length (L.flatMap mutL) hs h1 rfl (mutL_one _) hx (by unfold maxLen; omega) (by omega) hbase ?_
  intro v' w' g1 g2 g3
  refine h v' w' ⟨L ++ [⟨x, A, n, c⟩], by simp [hL], ?_, ?_, ?_, ?_⟩ g2 g3
  · rw [flat_snoc, List.length_append]
    exact g1
  · have ba : Below w.heap.size w (w.alloc (.cells u 33)) := (Below.refl _ _).alloc (Nat.le_refl _) _
    have hs1 := Hangs.snoc (e := (⟨x, A, n, c⟩ : MutS)) h2 hr hne
    refine (Hangs.moved (hs1.below ba) g2 g3 ?_)
    intro e he ad hA
    rw [World.size_alloc]
    rcases List.mem_append.1 he with he | he
    · exact Nat.lt_succ_of_lt (h4 e he ad hA).2
    · rw [List.mem_singleton.1 he] at hA
      exact Nat.lt_succ_of_lt (hlt ad hA).2
  · intro e he
    rcases List.mem_append.1 he with he | he
    · exact h3 e he
    · rw [List.mem_singleton.1 he]
      exact hz
  · intro e he ad hA
    have hs9 : w.heap.size ≤ w'.heap.size := Nat.le_trans (by rw [World.size_alloc]; omega) g2.size
    rcases List.mem_append.1 he with he | he
    · exact ⟨(h4 e he ad hA).1, Nat.lt_of_lt_of_le (h4 e he ad hA).2 hs9⟩
    · rw [List.mem_singleton.1 he] at hA
      exact ⟨(hlt ad hA).1, Nat.lt_of_lt_of_le (hlt ad hA).2 hs9⟩
end Go.Proofs.Ytfkooohnaodjmaa
