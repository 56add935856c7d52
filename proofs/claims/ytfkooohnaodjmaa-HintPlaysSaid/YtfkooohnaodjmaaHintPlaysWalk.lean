/- Walk of HintPlays. -/
import Derived.Test.YtfkooohnaodjmaaHinJ
import Derived.Test.YtfkooohnaodjmaaOpenHin
namespace Go.Proofs.Ytfkooohnaodjmaa
open Go.RowKit Go.Sort

theorem opL_len (o : OpS) : (opL o).length = 13 := rfl
theorem ops_n {w : World} {B n : Nat} {A : Option Addr} {L : List OpS} (h : Reads w B 13 A n (L.flatMap opL)) : L.length = n := by
  have hl := h.1
  rw [flat_len opL 13 opL_len] at hl
  omega
theorem op_at {w : World} {B n : Nat} {A : Option Addr} {L : List OpS} (h : Reads w B 13 A n (L.flatMap opL)) {k : Nat} (hk : k < L.length) : ∃ b off, A = some ⟨b, off, none⟩ ∧ b < B ∧ ∀ i u, i < 13 → (opL L[k])[i]? = some u → w.cell? ⟨b, off + k * 13 + i, none⟩ = some u := by
  have hl := ops_n h
  obtain ⟨b, off, hA, hb, hc⟩ := h.form3 (by omega) (by decide)
  refine ⟨b, off, hA, hb, fun i u hi hu => ?_⟩
  have := hc (k * 13 + i) u ((flat_get opL 13 opL_len L k i hk hi).trans hu)
  rw [← Nat.add_assoc] at this
  exact this
theorem addH_few {H : List HintP} {to now : Int} {m : Mut} (h : H.length ≤ 100) : (addH H to now m).length ≤ 100 := by
  unfold addH
  split
  · rename_i h4
    unfold addB at h4
    simp only [Bool.and_eq_true, decide_eq_true_eq] at h4
    rw [List.length_append, List.length_singleton]
    omega
  · exact h
theorem great1_noH {e : MutS} (h : great1 e = false) : e.n ≤ 50 := by
  unfold great1 at h
  simp only [Bool.or_eq_false_iff, decide_eq_false_iff_not] at h
  omega
/-- A call that came ahead. -/
def opI (i : Int) : OpS := ⟨0, 7, i, ⟨⟨0, 0, ⟨#[120]⟩, ⟨#[]⟩, ⟨#[]⟩, i, (0, 0, 0), []⟩, none, 0, 0⟩⟩

set_option maxRecDepth 100000 in
set_option maxHeartbeats 8000000 in
theorem hint_plays_walk (w : World) (ahead : Int) (Ac : Option Addr) (nc cc : Nat) (O : List OpS) (hnc : nc ≤ cc) (hcm : cc ≤ maxLen) (_ : Ac = none → cc = 0) (hOl : O.length = nc) (hOQ : ∀ o ∈ O, OpQ w o) (hOr : Reads w w.heap.size 13 Ac nc (O.flatMap opL)) :
    Calls Try.prog 3 #[.int .i64 ahead, .slice Ac nc cc] w fun e w' => e = .returned (.bool true) ∧ Below w.heap.size w w' := by
  have HOR := Lib.hid hOr
  have HOQ := Lib.hid hOQ
  have HOL := Lib.hid hOl
  have hcc : nc ≤ 9223372036854775807 := by unfold maxLen at hcm; omega
  clear hOr hOQ hOl hcm
  by_cases g1 : 150 < nc
  · have e1 : decide ((nc : Int) > 150) = true := by simp; omega
    go_enter Try.func3, Try.ntmps3
    go_wp2_with fail
    go_ret
    exact ⟨rfl, Below.refl _ _⟩
  have e1 : decide ((nc : Int) > 150) = false := by simp; omega
  by_cases g2 : ahead < 0
  · have e2 : decide (ahead < 0) = true := by simp [g2]
    go_enter Try.func3, Try.ntmps3
    go_wp2_with fail
    go_ret
    exact ⟨rfl, Below.refl _ _⟩
  have e2 : decide (ahead < 0) = false := by simp; omega
  by_cases g3 : 100 < ahead
  · have e3 : decide (ahead > 100) = true := by simp [g3]
    go_enter Try.func3, Try.ntmps3
    go_wp2_with fail
    go_ret
    exact ⟨rfl, Below.refl _ _⟩
  have e3 : decide (ahead > 100) = false := by simp; omega
  obtain ⟨a, rfl⟩ : ∃ a : Nat, ahead = (a : Int) := ⟨ahead.toNat, by omega⟩
  obtain ⟨W, hW⟩ : ∃ W, w.alloc (.cells #[.slice none 0 0] 26) = W := ⟨_, rfl⟩
  have bW : Below w.heap.size w W := by rw [← hW]; exact (Below.refl _ _).alloc (Nat.le_refl _) _
  have BS : Blk W w.heap.size 26 #[.slice none 0 0] := by rw [← hW]; exact Blk.new _ _ _
  have B0 : Both W w.heap.size w.heap.size (.slice none 0 0) none 0 0 [] [] :=
    ⟨StH.new BS (Nat.le_refl _), ⟨⟨rfl, fun h => absurd h (by decide)⟩, fun _ h => (by cases h), fun _ h => (by cases h), fun _ h => (by cases h)⟩, rfl, (by intro ad h; cases h), Nat.le_refl _, fun _ => rfl, Nat.zero_le _, bW.size⟩
  have HW := Lib.hid hW
  clear hW BS
  go_enter Try.func3, Try.ntmps3
  go_upto_region 4 with fail
  rw [HW.out]
  clear e1 e2 e3 HW
  go_wp2_with fail
  go_loopw [6, 7, 8] (fun v6 v7 _ wr => ∃ (i : Nat) (v : Value) (A : Option Addr) (n c : Nat) (L1 L2 : List HintS), v7 = .int .i64 i ∧ i ≤ a ∧ v6 = .slice A n c ∧ Both wr w.heap.size w.heap.size v A n c L1 L2 ∧ Below w.heap.size w wr) (fun _ v7 _ _ => a - (intOf v7).toNat)
  case atStart => exact ⟨0, _, none, 0, 0, [], [], rfl, Nat.zero_le _, rfl, B0, bW⟩
  case round =>
    clear B0 bW
    obtain ⟨i, v, A, n, c, L1, L2, rfl, hia, rfl, hB, hBw⟩ := hrel
    have HB := Lib.hid hB
    by_cases hlt : i < a
    · have hsz := hBw.size
      obtain ⟨W1, hW1⟩ : ∃ W1, wr.alloc (.cells (opC (opI i)) 35) = W1 := ⟨_, rfl⟩
      have b1 : Below wr.heap.size wr W1 := by rw [← hW1]; exact (Below.refl _ _).alloc (Nat.le_refl _) _
      have BO : Blk W1 wr.heap.size 35 (opC (opI i)) := by rw [← hW1]; exact Blk.new _ _ _
      have h1 := hB.below b1
      have hr0 : ∀ (u : World) (B : Nat), Reads u B 3 none 0 (([] : List (Int × Int × Int)).flatMap sc) := fun u B => ⟨rfl, fun h => absurd h (by decide)⟩
      have HLA := Lib.hid (law28_add A n c L2 (opI i) w.heap.size W1 h1.lw h1.lo (by have := h1.few; omega) h1.cap h1.nil (hr0 _ _) ⟨(show (0 : Nat) ≤ 1000000000 by decide), fun _ => rfl⟩)
      have H1 := Lib.hid h1
      have HW1 := Lib.hid hW1
      have BOs : Blk W1 wr.heap.size 35 #[.int .i64 0, .int .i64 7, .int .i64 i, .int .i64 0, .int .i64 0, .string ⟨#[120]⟩, .string ⟨#[]⟩, .string ⟨#[]⟩, .int .i64 i, .int .i64 0, .int .i64 0, .int .i64 0, .slice none 0 0] := BO
      have o0 : W1.cell? ⟨wr.heap.size, 0, none⟩ = some (.int .i64 0) := BOs.cell 0
      have o1 : W1.cell? ⟨wr.heap.size, 1, none⟩ = some (.int .i64 7) := BOs.cell 1
      have o2 : W1.cell? ⟨wr.heap.size, 2, none⟩ = some (.int .i64 i) := BOs.cell 2
      have o3 : W1.cell? ⟨wr.heap.size, 3, none⟩ = some (.int .i64 0) := BOs.cell 3
      have o4 : W1.cell? ⟨wr.heap.size, 4, none⟩ = some (.int .i64 0) := BOs.cell 4
      have o5 : W1.cell? ⟨wr.heap.size, 5, none⟩ = some (.string ⟨#[120]⟩) := BOs.cell 5
      have o6 : W1.cell? ⟨wr.heap.size, 6, none⟩ = some (.string ⟨#[]⟩) := BOs.cell 6
      have o7 : W1.cell? ⟨wr.heap.size, 7, none⟩ = some (.string ⟨#[]⟩) := BOs.cell 7
      have o8 : W1.cell? ⟨wr.heap.size, 8, none⟩ = some (.int .i64 i) := BOs.cell 8
      have o9 : W1.cell? ⟨wr.heap.size, 9, none⟩ = some (.int .i64 0) := BOs.cell 9
      have o10 : W1.cell? ⟨wr.heap.size, 10, none⟩ = some (.int .i64 0) := BOs.cell 10
      have o11 : W1.cell? ⟨wr.heap.size, 11, none⟩ = some (.int .i64 0) := BOs.cell 11
      have o12 : W1.cell? ⟨wr.heap.size, 12, none⟩ = some (.slice none 0 0) := BOs.cell 12
      have HLA2 := HLA
      unfold opC opI at HLA
      clear hB h1 hW1 BO HLA2
      go_upto_region 9 with fail
      rw [show wr.alloc (.cells #[.int .i64 0, .int .i64 7, .int .i64 i, .int .i64 0, .int .i64 0, .string ⟨#[120]⟩, .string ⟨#[]⟩, .string ⟨#[]⟩, .int .i64 i, .int .i64 0, .int .i64 0, .int .i64 0, .slice none 0 0] 35) = W1 from HW1.out]
      go_wp2_with fail
      refine HLA.out.mono ?_
      clear HLA
      rintro e w2 ⟨A', n', c', L2', rfl, l2, e2, f2, z2, m2, b2⟩
      have st2 := H1.out.st.below b2
      have hs2 := b2.size
      have hs1 := b1.size
      have HGO := Lib.hid (hint_Add w.heap.size w.heap.size v L1 7 i (opI i).e.m none 0 0 w2 st2 (hr0 _ _) (fun _ => rfl) (by decide) (by have := H1.out.few; have := H1.out.len; omega))
      have BO2 := BOs.below b2 BOs.lt
      have HL1 := Lib.hid (And.intro l2 (And.intro f2 (And.intro z2 (And.intro m2 b2))))
      have HE1 := Lib.hid e2
      have hn' : L2'.length = n' := l2.n_eq
      have hn2 : n' ≤ 100 := by
        have h3 := congrArg List.length e2
        rw [List.length_map] at h3
        have h4 := addH_few (H := L2.map hp) (to := 7) (now := i) (m := (opI i).e.m) (by rw [List.length_map, H1.out.lw.n_eq]; exact H1.out.few)
        have h5 : L2'.length ≤ 100 := by rw [h3]; exact h4
        omega
      clear o0 o1 o2 o3 o4 o5 o6 o7 o8 o9 o10 o11 o12
      have o0 : w2.cell? ⟨wr.heap.size, 0, none⟩ = some (.int .i64 0) := BO2.cell 0
      have o1 : w2.cell? ⟨wr.heap.size, 1, none⟩ = some (.int .i64 7) := BO2.cell 1
      have o2 : w2.cell? ⟨wr.heap.size, 2, none⟩ = some (.int .i64 i) := BO2.cell 2
      have o3 : w2.cell? ⟨wr.heap.size, 3, none⟩ = some (.int .i64 0) := BO2.cell 3
      have o4 : w2.cell? ⟨wr.heap.size, 4, none⟩ = some (.int .i64 0) := BO2.cell 4
      have o5 : w2.cell? ⟨wr.heap.size, 5, none⟩ = some (.string ⟨#[120]⟩) := BO2.cell 5
      have o6 : w2.cell? ⟨wr.heap.size, 6, none⟩ = some (.string ⟨#[]⟩) := BO2.cell 6
      have o7 : w2.cell? ⟨wr.heap.size, 7, none⟩ = some (.string ⟨#[]⟩) := BO2.cell 7
      have o8 : w2.cell? ⟨wr.heap.size, 8, none⟩ = some (.int .i64 i) := BO2.cell 8
      have o9 : w2.cell? ⟨wr.heap.size, 9, none⟩ = some (.int .i64 0) := BO2.cell 9
      have o10 : w2.cell? ⟨wr.heap.size, 10, none⟩ = some (.int .i64 0) := BO2.cell 10
      have o11 : w2.cell? ⟨wr.heap.size, 11, none⟩ = some (.int .i64 0) := BO2.cell 11
      have o12 : w2.cell? ⟨wr.heap.size, 12, none⟩ = some (.slice none 0 0) := BO2.cell 12
      clear l2 e2 f2 z2 m2 b2 st2 BO2
      unfold mutC opI at HGO
      go_wp2_with fail
      refine HGO.out.mono ?_
      clear HGO
      rintro e w3 ⟨v', L1', rfl, st3, e3, s3, li3⟩
      have hz3 : L1'.map hp = L2'.map hp := by rw [e3, HE1.out, H1.out.same]
      have P := both_of H1.out HL1.out.2.2.2.2 HL1.out.1 HL1.out.2.1 HL1.out.2.2.2.1 HL1.out.2.2.1 hn2 st3 s3 li3 hz3
      have HP := Lib.hid P
      have hb3 := hBw.trans ((b1.mono hsz).trans P.2)
      clear o0 o1 o2 o3 o4 o5 o6 o7 o8 o9 o10 o11 o12 P st3 e3 s3 li3 hz3
      go_wp2_with fail
      go_roundw
      case rel => exact ⟨i + 1, v', A', n', c', L1', L2', by go_num, by omega, rfl, HP.out.1, hb3⟩
      case measure => simp [intOf]; omega
    · clear hB
      go_wp2_with fail
      clear hlt hia
      go_loopw [6, 9, 10, 11] (fun v6 v9 _ _ wr => ∃ (j : Nat) (v : Value) (A : Option Addr) (n c : Nat) (L1 L2 : List HintS), v9 = .int .i64 j ∧ j ≤ nc ∧ v6 = .slice A n c ∧ Both wr w.heap.size w.heap.size v A n c L1 L2 ∧ Below w.heap.size w wr) (fun _ v9 _ _ _ => nc - (intOf v9).toNat)
      case atStart => exact ⟨0, v, A, n, c, L1, L2, rfl, Nat.zero_le _, rfl, HB.out, hBw⟩
      case round =>
        clear HB hBw
        obtain ⟨j, v, A, n, c, L1, L2, rfl, hja, rfl, hB, hBw⟩ := hrel
        have HB := Lib.hid hB
        have hsz := hBw.size
        clear hB
        by_cases hlt : j < nc
        · have hjl : j < O.length := by have := HOL.out; omega
          obtain ⟨b, off, hA, hbb, hc⟩ := op_at ((HOR.out.below hBw).more hsz) hjl
          subst hA
          have hoq := HOQ.out _ (List.getElem_mem hjl)
          obtain ⟨o, ho⟩ : ∃ o, O[j]'hjl = o := ⟨_, rfl⟩
          rw [ho] at hc hoq
          have o0 : wr.cell? ⟨b, off + j * 13, none⟩ = some (.int .i64 o.kind) := hc 0 _ (by decide) rfl
          have o1 : wr.cell? ⟨b, off + j * 13 + 1, none⟩ = some (.int .i64 o.to) := hc 1 _ (by decide) rfl
          have o2 : wr.cell? ⟨b, off + j * 13 + 2, none⟩ = some (.int .i64 o.now) := hc 2 _ (by decide) rfl
          have o3 : wr.cell? ⟨b, off + j * 13 + 3, none⟩ = some (.int .i64 o.e.m.tab) := hc 3 _ (by decide) rfl
          have o4 : wr.cell? ⟨b, off + j * 13 + 4, none⟩ = some (.int .i64 o.e.m.kind) := hc 4 _ (by decide) rfl
          have o5 : wr.cell? ⟨b, off + j * 13 + 5, none⟩ = some (.string o.e.m.key) := hc 5 _ (by decide) rfl
          have o6 : wr.cell? ⟨b, off + j * 13 + 6, none⟩ = some (.string o.e.m.en) := hc 6 _ (by decide) rfl
          have o7 : wr.cell? ⟨b, off + j * 13 + 7, none⟩ = some (.string o.e.m.val) := hc 7 _ (by decide) rfl
          have o8 : wr.cell? ⟨b, off + j * 13 + 8, none⟩ = some (.int .i64 o.e.m.exp) := hc 8 _ (by decide) rfl
          have o9 : wr.cell? ⟨b, off + j * 13 + 9, none⟩ = some (.int .i64 o.e.m.at_.1) := hc 9 _ (by decide) rfl
          have o10 : wr.cell? ⟨b, off + j * 13 + 10, none⟩ = some (.int .i64 o.e.m.at_.2.1) := hc 10 _ (by decide) rfl
          have o11 : wr.cell? ⟨b, off + j * 13 + 11, none⟩ = some (.int .i64 o.e.m.at_.2.2) := hc 11 _ (by decide) rfl
          have o12 : wr.cell? ⟨b, off + j * 13 + 12, none⟩ = some (.slice o.e.A o.e.n o.e.c) := hc 12 _ (by decide) rfl
          have HQ := Lib.hid hoq
          have hk1 : o.kind ≤ 9223372036854775807 := hoq.1.1.2
          clear hc ho hoq
          by_cases hk0 : o.kind < 0
          · have f1 : decide (o.kind < 0) = true := by simp [hk0]
            go_wp2_with fail
            go_ret
            exact ⟨rfl, hBw⟩
          have f1 : decide (o.kind < 0) = false := by simp; omega
          obtain ⟨W1, hW1⟩ : ∃ W1, wr.alloc (.cells #[.int .i64 o.e.m.tab, .int .i64 o.e.m.kind, .string o.e.m.key, .string o.e.m.en, .string o.e.m.val, .int .i64 o.e.m.exp, .int .i64 o.e.m.at_.1, .int .i64 o.e.m.at_.2.1, .int .i64 o.e.m.at_.2.2, .slice o.e.A o.e.n o.e.c] 33) = W1 := ⟨_, rfl⟩
          have b1 : Below wr.heap.size wr W1 := by rw [← hW1]; exact (Below.refl _ _).alloc (Nat.le_refl _) _
          have BM : Blk W1 wr.heap.size 33 #[.int .i64 o.e.m.tab, .int .i64 o.e.m.kind, .string o.e.m.key, .string o.e.m.en, .string o.e.m.val, .int .i64 o.e.m.exp, .int .i64 o.e.m.at_.1, .int .i64 o.e.m.at_.2.1, .int .i64 o.e.m.at_.2.2, .slice o.e.A o.e.n o.e.c] := by rw [← hW1]; exact Blk.new _ _ _
          have hs1 := b1.size
          have hRM : Reads W1 W1.heap.size 10 (some ⟨wr.heap.size, 0, none⟩) 1 ([o.e].flatMap mutL) := by
            refine ⟨rfl, fun _ => ⟨_, rfl, BM.lt, fun q u hu => ?_⟩⟩
            rw [add_lit, Nat.zero_add, BM.cell q, ← hu]
            simp [mutL]
          have HG := Lib.hid (law08_Great (some ⟨wr.heap.size, 0, none⟩) 1 1 [o.e] 1 W1 hRM (by decide))
          have hany : ([o.e].any great1) = great1 o.e := by simp
          rw [hany, show decide ((1 : Int) < ((1 : Nat) : Int)) = false by decide, Bool.false_or] at HG
          have H1 := Lib.hid (HB.out.below b1)
          have hB1 := hBw.trans (b1.mono hsz)
          have p0 : W1.cell? ⟨b, off + j * 13, none⟩ = some (.int .i64 o.kind) := (b1.cell (p := ⟨b, off + j * 13, none⟩) hbb).trans o0
          have p1 : W1.cell? ⟨b, off + j * 13 + 1, none⟩ = some (.int .i64 o.to) := (b1.cell (p := ⟨b, off + j * 13 + 1, none⟩) hbb).trans o1
          have p2 : W1.cell? ⟨b, off + j * 13 + 2, none⟩ = some (.int .i64 o.now) := (b1.cell (p := ⟨b, off + j * 13 + 2, none⟩) hbb).trans o2
          have p3 : W1.cell? ⟨b, off + j * 13 + 3, none⟩ = some (.int .i64 o.e.m.tab) := (b1.cell (p := ⟨b, off + j * 13 + 3, none⟩) hbb).trans o3
          have p4 : W1.cell? ⟨b, off + j * 13 + 4, none⟩ = some (.int .i64 o.e.m.kind) := (b1.cell (p := ⟨b, off + j * 13 + 4, none⟩) hbb).trans o4
          have p5 : W1.cell? ⟨b, off + j * 13 + 5, none⟩ = some (.string o.e.m.key) := (b1.cell (p := ⟨b, off + j * 13 + 5, none⟩) hbb).trans o5
          have p6 : W1.cell? ⟨b, off + j * 13 + 6, none⟩ = some (.string o.e.m.en) := (b1.cell (p := ⟨b, off + j * 13 + 6, none⟩) hbb).trans o6
          have p7 : W1.cell? ⟨b, off + j * 13 + 7, none⟩ = some (.string o.e.m.val) := (b1.cell (p := ⟨b, off + j * 13 + 7, none⟩) hbb).trans o7
          have p8 : W1.cell? ⟨b, off + j * 13 + 8, none⟩ = some (.int .i64 o.e.m.exp) := (b1.cell (p := ⟨b, off + j * 13 + 8, none⟩) hbb).trans o8
          have p9 : W1.cell? ⟨b, off + j * 13 + 9, none⟩ = some (.int .i64 o.e.m.at_.1) := (b1.cell (p := ⟨b, off + j * 13 + 9, none⟩) hbb).trans o9
          have p10 : W1.cell? ⟨b, off + j * 13 + 10, none⟩ = some (.int .i64 o.e.m.at_.2.1) := (b1.cell (p := ⟨b, off + j * 13 + 10, none⟩) hbb).trans o10
          have p11 : W1.cell? ⟨b, off + j * 13 + 11, none⟩ = some (.int .i64 o.e.m.at_.2.2) := (b1.cell (p := ⟨b, off + j * 13 + 11, none⟩) hbb).trans o11
          have p12 : W1.cell? ⟨b, off + j * 13 + 12, none⟩ = some (.slice o.e.A o.e.n o.e.c) := (b1.cell (p := ⟨b, off + j * 13 + 12, none⟩) hbb).trans o12
          clear hRM hany BM
          cases hgr : great1 o.e with
          | true =>
            rw [hgr] at HG
            clear hgr
            go_wp2_with fail
            refine HG.out.mono ?_
            clear HG
            rintro e w2 ⟨rfl, rfl⟩
            go_wp2_with fail
            go_ret
            exact ⟨rfl, hB1⟩
          | false =>
            rw [hgr] at HG
            have hg1 := great1_noH hgr
            have HS := Lib.hid (law28_step w.heap.size w.heap.size v A n c L1 L2 o W1 H1.out ⟨by omega, hk1⟩ (HQ.out.2.2.2.2.1.below hB1) ⟨by omega, HQ.out.2.2.2.1⟩)
            clear hgr
            unfold opC at HS
            go_wp2_with fail
            refine HG.out.mono ?_
            clear HG
            rintro e w2 ⟨rfl, hw2⟩
            subst hw2
            clear hW1 o0 o1 o2 o3 o4 o5 o6 o7 o8 o9 o10 o11 o12
            go_wp2_with fail
            clear p0 p1 p2 p3 p4 p5 p6 p7 p8 p9 p10 p11 p12
            refine HS.out.mono ?_
            clear HS
            rintro e w3 ⟨v', A', n', c', L1', L2', rfl, B3, b3⟩
            obtain ⟨A3, c3, rfl, -, -, -⟩ := own_form B3.st.own
            have hl3 := B3.len
            have HB3 := Lib.hid B3
            rw [hl3] at HB3
            have C := Lib.hid (hint_Len w.heap.size A3 n' c3 w3 HB3.out.st.blk)
            have hBw3 := hB1.trans b3
            have hnn : ((n' : Int) != (n' : Int)) = false := by simp
            clear B3 hl3
            go_wp2_with fail
            refine C.out.mono ?_
            clear C
            rintro e w4 ⟨rfl, hw4⟩
            subst hw4
            go_wp2_with fail
            go_roundw
            case rel => exact ⟨j + 1, _, A', n', c', L1', L2', by go_num, by omega, rfl, HB3.out, hBw3⟩
            case measure => simp [intOf]; omega
        · have HAL := Lib.hid (law28_all w.heap.size w.heap.size v L1 wr HB.out.st (by have := HB.out.few; have := HB.out.len; omega))
          go_wp2_with fail
          refine HAL.out.mono ?_
          clear HAL
          rintro e w2 ⟨A3, n3, c3, L3, rfl, e3, l3, r3, q3, z3, b3⟩
          have HB2 := Lib.hid (HB.out.below b3)
          have hBw2 := hBw.trans (b3.mono hsz)
          have hs2 := hBw2.size
          have hn3 : n3 = n := by
            have h1 := congrArg List.length (e3.trans HB.out.same)
            rw [List.length_map, List.length_map, l3, HB.out.lw.n_eq] at h1
            exact h1
          subst hn3
          have hsame : L3.map hp = L2.map hp := e3.trans HB.out.same
          have H3 := Lib.hid (And.intro r3 (And.intro q3 (And.intro z3 (And.intro l3 hsame))))
          have hfew := HB.out.few
          clear e3 l3 r3 q3 z3 b3 hsame HB
          go_wp2_with fail
          go_loopw [13] (fun v13 wr => ∃ k : Nat, v13 = .int .i64 k ∧ k ≤ n3 ∧ Below w2.heap.size w2 wr) (fun v13 _ => n3 - (intOf v13).toNat)
          case atStart => exact ⟨0, rfl, Nat.zero_le _, Below.refl _ _⟩
          case round =>
            obtain ⟨k, rfl, hk, hB3⟩ := hrel
            have hnn : ((n3 : Int) != (n3 : Int)) = false := by simp
            by_cases hkn : k < n3
            · have hk3 : k < L3.length := by have := H3.out.2.2.2.1; omega
              have hk2 : k < L2.length := by have := HB2.out.lw.n_eq; omega
              obtain ⟨b, off, hA, hbb, hc⟩ := hint_at ((H3.out.1.below hB3).more hB3.size) hk3
              obtain ⟨b', off', hA', hbb', hc'⟩ := hint_at (HB2.out.below hB3).lw.rd hk2
              subst hA hA'
              have hxy : hp L3[k] = hp L2[k] := by
                have := H3.out.2.2.2.2
                have h1 := congrArg (fun l => l[k]?) this
                simp only [List.getElem?_map, List.getElem?_eq_getElem hk3, List.getElem?_eq_getElem hk2, Option.map_some] at h1
                injection h1
              have hrx := ((H3.out.2.1.below hB3).at_ hk3)
              have hry := ((HB2.out.below hB3).lw.el _ (List.getElem_mem hk2)).more (HB2.out.below hB3).lo
              have hox := H3.out.2.2.1 _ (List.getElem_mem hk3)
              obtain ⟨x, hx⟩ : ∃ x, L3[k]'hk3 = x := ⟨_, rfl⟩
              obtain ⟨y, hy⟩ : ∃ y, L2[k]'hk2 = y := ⟨_, rfl⟩
              rw [hx] at hc hxy hrx hox
              rw [hy] at hc' hxy hry
              have x0 : wr.cell? ⟨b, off + k * 12, none⟩ = some (.int .i64 x.to) := hc 0 _ (by decide) rfl
              have x1 : wr.cell? ⟨b, off + k * 12 + 1, none⟩ = some (.int .i64 x.until_) := hc 1 _ (by decide) rfl
              have x2 : wr.cell? ⟨b, off + k * 12 + 2, none⟩ = some (.int .i64 x.e.m.tab) := hc 2 _ (by decide) rfl
              have x3 : wr.cell? ⟨b, off + k * 12 + 3, none⟩ = some (.int .i64 x.e.m.kind) := hc 3 _ (by decide) rfl
              have x4 : wr.cell? ⟨b, off + k * 12 + 4, none⟩ = some (.string x.e.m.key) := hc 4 _ (by decide) rfl
              have x5 : wr.cell? ⟨b, off + k * 12 + 5, none⟩ = some (.string x.e.m.en) := hc 5 _ (by decide) rfl
              have x6 : wr.cell? ⟨b, off + k * 12 + 6, none⟩ = some (.string x.e.m.val) := hc 6 _ (by decide) rfl
              have x7 : wr.cell? ⟨b, off + k * 12 + 7, none⟩ = some (.int .i64 x.e.m.exp) := hc 7 _ (by decide) rfl
              have x8 : wr.cell? ⟨b, off + k * 12 + 8, none⟩ = some (.int .i64 x.e.m.at_.1) := hc 8 _ (by decide) rfl
              have x9 : wr.cell? ⟨b, off + k * 12 + 9, none⟩ = some (.int .i64 x.e.m.at_.2.1) := hc 9 _ (by decide) rfl
              have x10 : wr.cell? ⟨b, off + k * 12 + 10, none⟩ = some (.int .i64 x.e.m.at_.2.2) := hc 10 _ (by decide) rfl
              have x11 : wr.cell? ⟨b, off + k * 12 + 11, none⟩ = some (.slice x.e.A x.e.n x.e.c) := hc 11 _ (by decide) rfl
              have y0 : wr.cell? ⟨b', off' + k * 12, none⟩ = some (.int .i64 y.to) := hc' 0 _ (by decide) rfl
              have y1 : wr.cell? ⟨b', off' + k * 12 + 1, none⟩ = some (.int .i64 y.until_) := hc' 1 _ (by decide) rfl
              have y2 : wr.cell? ⟨b', off' + k * 12 + 2, none⟩ = some (.int .i64 y.e.m.tab) := hc' 2 _ (by decide) rfl
              have y3 : wr.cell? ⟨b', off' + k * 12 + 3, none⟩ = some (.int .i64 y.e.m.kind) := hc' 3 _ (by decide) rfl
              have y4 : wr.cell? ⟨b', off' + k * 12 + 4, none⟩ = some (.string y.e.m.key) := hc' 4 _ (by decide) rfl
              have y5 : wr.cell? ⟨b', off' + k * 12 + 5, none⟩ = some (.string y.e.m.en) := hc' 5 _ (by decide) rfl
              have y6 : wr.cell? ⟨b', off' + k * 12 + 6, none⟩ = some (.string y.e.m.val) := hc' 6 _ (by decide) rfl
              have y7 : wr.cell? ⟨b', off' + k * 12 + 7, none⟩ = some (.int .i64 y.e.m.exp) := hc' 7 _ (by decide) rfl
              have y8 : wr.cell? ⟨b', off' + k * 12 + 8, none⟩ = some (.int .i64 y.e.m.at_.1) := hc' 8 _ (by decide) rfl
              have y9 : wr.cell? ⟨b', off' + k * 12 + 9, none⟩ = some (.int .i64 y.e.m.at_.2.1) := hc' 9 _ (by decide) rfl
              have y10 : wr.cell? ⟨b', off' + k * 12 + 10, none⟩ = some (.int .i64 y.e.m.at_.2.2) := hc' 10 _ (by decide) rfl
              have y11 : wr.cell? ⟨b', off' + k * 12 + 11, none⟩ = some (.slice y.e.A y.e.n y.e.c) := hc' 11 _ (by decide) rfl
              unfold hp at hxy
              injection hxy with t1 t2 t3
              have k1 : ∀ d os, Calls Try.prog 11 #[.agg #[.int .i64 x.e.m.tab, .int .i64 x.e.m.kind, .string x.e.m.key, .string x.e.m.en, .string x.e.m.val, .int .i64 x.e.m.exp, .int .i64 x.e.m.at_.1, .int .i64 x.e.m.at_.2.1, .int .i64 x.e.m.at_.2.2, .slice x.e.A x.e.n x.e.c], .agg #[.int .i64 y.e.m.tab, .int .i64 y.e.m.kind, .string y.e.m.key, .string y.e.m.en, .string y.e.m.val, .int .i64 y.e.m.exp, .int .i64 y.e.m.at_.1, .int .i64 y.e.m.at_.2.1, .int .i64 y.e.m.at_.2.2, .slice y.e.A y.e.n y.e.c]] (grow (redrawn wr d) os) fun e w'' => e = .returned (.int .i64 0) ∧ ∃ p : Regrown, w'' = grow (redrawn wr p.d) p.os := fun d os => Calls.regrown_of (by
                have bb := below_regrown wr d os
                have h0 := ref07_Compare x.e.m y.e.m x.e.A y.e.A x.e.n x.e.c y.e.n y.e.c _ ((hrx.below bb).more bb.size) ((hry.below bb).more bb.size) hox.1
                rw [show cmpM x.e.m y.e.m = 0 by rw [t3]; exact cmpM_selfH _] at h0
                exact h0)
              have t4 : (x.to != y.to) = false := by simp [t1]
              have t5 : (x.until_ != y.until_) = false := by simp [t2]
              clear t1 t2 t3 hc hc' hx hy hrx hry hox
              go_upto_region 24 with fail
              have r0 := cell_regrown x0
              have r1 := cell_regrown x1
              have r2 := cell_regrown x2
              have r3 := cell_regrown x3
              have r4 := cell_regrown x4
              have r5 := cell_regrown x5
              have r6 := cell_regrown x6
              have r7 := cell_regrown x7
              have r8 := cell_regrown x8
              have r9 := cell_regrown x9
              have r10 := cell_regrown x10
              have r11 := cell_regrown x11
              have s0 := cell_regrown y0
              have s1 := cell_regrown y1
              have s2 := cell_regrown y2
              have s3 := cell_regrown y3
              have s4 := cell_regrown y4
              have s5 := cell_regrown y5
              have s6 := cell_regrown y6
              have s7 := cell_regrown y7
              have s8 := cell_regrown y8
              have s9 := cell_regrown y9
              have s10 := cell_regrown y10
              have s11 := cell_regrown y11
              clear x0 x1 x2 x3 x4 x5 x6 x7 x8 x9 x10 x11 y0 y1 y2 y3 y4 y5 y6 y7 y8 y9 y10 y11
              refine wp_region_quiet_below (by kernel_rfl) (by kernel_rfl) ?_
              repeat (go_big_quiet_step (with_reducible exact k1 _ _))
              refine wpQuiet_nil ?_
              rintro w3 ⟨⟨d, os⟩, rfl⟩
              have hB4 := below_regrown_of hB3 hB3.size d os
              generalize grow (redrawn wr d) os = w3 at *
              clear k1 r0 r1 r2 r3 r4 r5 r6 r7 r8 r9 r10 r11 s0 s1 s2 s3 s4 s5 s6 s7 s8 s9 s10 s11
              go_wp2_with fail
              go_roundw
              case rel => exact ⟨k + 1, by go_num, by omega, hB4⟩
              case measure => simp [intOf]; omega
            · have hee : ((n3 : Int) == (n3 : Int)) = true := by simp
              go_wp2_with fail
              refine (law28_alive wr).mono ?_
              rintro e w5 ⟨rfl, b5⟩
              go_wp2_with fail
              go_ret
              have h8 := hBw2.trans (hB3.mono hs2)
              exact ⟨rfl, h8.trans (b5.mono h8.size)⟩
end Go.Proofs.Ytfkooohnaodjmaa
