/- Contracts of the reference's Same (of a row with itself) and Text. Contract of step.Text. Rows of steps that grow; contracts of step.Parse and of the reference's Parse. -/
import Derived.Test.YtimmfcbpdnlfjaaDoorStpR
import Derived.Test.YtimmfcbpdnlfjaaDoorBld
namespace Go.Proofs.YtimmfcbpdnlfjaaDoor
open Go.RowKit Go.Sort
set_option linter.unusedVariables false
set_option linter.unusedSimpArgs false

theorem row_cells {w : World} {b off k : Nat} {s : Stp} (h : ∀ i, i < 9 → w.cell? ⟨b, off + k * 9 + i, none⟩ = (stpC s)[i]?) {w' : World} (hw : ∀ p : Addr, p.block = b → w'.cell? p = w.cell? p) : ∀ i, i < 9 → w'.cell? ⟨b, off + k * 9 + i, none⟩ = (stpC s)[i]? := fun i hi => by
  rw [← h i hi]
  exact hw _ rfl
set_option maxRecDepth 100000 in
set_option maxHeartbeats 2000000 in
theorem ref40_Same (A1 A2 : Option Addr) (n c1 c2 : Nat) (L : List Stp) (w : World) (h1 : Reads w w.heap.size 9 A1 n (L.flatMap stpL)) (h2 : Reads w w.heap.size 9 A2 n (L.flatMap stpL)) (hn : n ≤ 1000000) :
    Calls Tryd.prog 16 #[.slice A1 n c1, .slice A2 n c2] w fun e w' => e = .returned (.bool true) ∧ Below w.heap.size w w' := by
  have HN := Lib.hid (steps_n h1)
  have H1 := Lib.hid h1
  have H2 := Lib.hid h2
  clear h1 h2
  go_enter Tryd.func16, Tryd.ntmps16
  go_wp2_with fail
  go_loopw [5] (fun v5 wr => ∃ k : Nat, v5 = .int .i64 k ∧ k ≤ n ∧ Below w.heap.size w wr) (fun v5 _ => n - (RowKit.intOf v5).toNat)
  case atStart => exact ⟨0, rfl, Nat.zero_le _, Below.refl _ _⟩
  case round =>
    obtain ⟨k, rfl, hk, hb⟩ := hrel
    by_cases hkn : k < n
    · obtain ⟨b, off, rfl, hbl, hc⟩ := steps_at H1.out (by omega)
      obtain ⟨b2, off2, rfl, hbl2, hc2⟩ := steps_at H2.out (by omega)
      have hkL : k < L.length := by rw [HN.out]; exact hkn
      have q1 := hc k hkL
      have q2 := hc2 k hkL
      obtain ⟨s, hs⟩ : ∃ s, L[k] = s := ⟨_, rfl⟩
      rw [hs] at q1 q2
      clear hs hc hc2
      have hbw := hb.size
      have r1 := fun d os => row_cells q1 (w' := grow (redrawn wr d) os) (fun p hp => (below_regrown wr d os).cell (p := p) (by rw [hp]; omega) |>.trans (hb.cell (p := p) (by rw [hp]; exact hbl)))
      have r2 := fun d os => row_cells q2 (w' := grow (redrawn wr d) os) (fun p hp => (below_regrown wr d os).cell (p := p) (by rw [hp]; omega) |>.trans (hb.cell (p := p) (by rw [hp]; exact hbl2)))
      have hNE : ∀ w, (binOp .neq 26 (.agg (stpC s)) (.agg (stpC s))).run Tryd.prog w = .ok (.bool false) w := fun w => by
        rw [step_neq, stpEq_self]
        rfl
      unfold stpC at hNE
      have c0 : ∀ d os, (grow (redrawn wr d) os).cell? ⟨b, off + k * 9, none⟩ = some (.int .i64 s.kind) := fun d os => r1 d os 0 (by decide)
      have c1 : ∀ d os, (grow (redrawn wr d) os).cell? ⟨b, off + k * 9 + 1, none⟩ = some (.int .i64 s.n) := fun d os => r1 d os 1 (by decide)
      have c2 : ∀ d os, (grow (redrawn wr d) os).cell? ⟨b, off + k * 9 + 2, none⟩ = some (.int .i64 s.ticks) := fun d os => r1 d os 2 (by decide)
      have c3 : ∀ d os, (grow (redrawn wr d) os).cell? ⟨b, off + k * 9 + 3, none⟩ = some (.int .i64 s.tab) := fun d os => r1 d os 3 (by decide)
      have c4 : ∀ d os, (grow (redrawn wr d) os).cell? ⟨b, off + k * 9 + 4, none⟩ = some (.int .i64 s.lev) := fun d os => r1 d os 4 (by decide)
      have c5 : ∀ d os, (grow (redrawn wr d) os).cell? ⟨b, off + k * 9 + 5, none⟩ = some (.string s.key) := fun d os => r1 d os 5 (by decide)
      have c6 : ∀ d os, (grow (redrawn wr d) os).cell? ⟨b, off + k * 9 + 6, none⟩ = some (.string s.en) := fun d os => r1 d os 6 (by decide)
      have c7 : ∀ d os, (grow (redrawn wr d) os).cell? ⟨b, off + k * 9 + 7, none⟩ = some (.string s.val) := fun d os => r1 d os 7 (by decide)
      have c8 : ∀ d os, (grow (redrawn wr d) os).cell? ⟨b, off + k * 9 + 8, none⟩ = some (.int .i64 s.ctx) := fun d os => r1 d os 8 (by decide)
      have e0 : ∀ d os, (grow (redrawn wr d) os).cell? ⟨b2, off2 + k * 9, none⟩ = some (.int .i64 s.kind) := fun d os => r2 d os 0 (by decide)
      have e1 : ∀ d os, (grow (redrawn wr d) os).cell? ⟨b2, off2 + k * 9 + 1, none⟩ = some (.int .i64 s.n) := fun d os => r2 d os 1 (by decide)
      have e2 : ∀ d os, (grow (redrawn wr d) os).cell? ⟨b2, off2 + k * 9 + 2, none⟩ = some (.int .i64 s.ticks) := fun d os => r2 d os 2 (by decide)
      have e3 : ∀ d os, (grow (redrawn wr d) os).cell? ⟨b2, off2 + k * 9 + 3, none⟩ = some (.int .i64 s.tab) := fun d os => r2 d os 3 (by decide)
      have e4 : ∀ d os, (grow (redrawn wr d) os).cell? ⟨b2, off2 + k * 9 + 4, none⟩ = some (.int .i64 s.lev) := fun d os => r2 d os 4 (by decide)
      have e5 : ∀ d os, (grow (redrawn wr d) os).cell? ⟨b2, off2 + k * 9 + 5, none⟩ = some (.string s.key) := fun d os => r2 d os 5 (by decide)
      have e6 : ∀ d os, (grow (redrawn wr d) os).cell? ⟨b2, off2 + k * 9 + 6, none⟩ = some (.string s.en) := fun d os => r2 d os 6 (by decide)
      have e7 : ∀ d os, (grow (redrawn wr d) os).cell? ⟨b2, off2 + k * 9 + 7, none⟩ = some (.string s.val) := fun d os => r2 d os 7 (by decide)
      have e8 : ∀ d os, (grow (redrawn wr d) os).cell? ⟨b2, off2 + k * 9 + 8, none⟩ = some (.int .i64 s.ctx) := fun d os => r2 d os 8 (by decide)
      clear q1 q2 r1 r2
      go_upto_region 6 with fail
      refine wp_region_quiet_below (by kernel_rfl) (by kernel_rfl) ?_
      repeat (go_big_quiet_step (fail))
      refine wpQuiet_nil ?_
      intro _ hw'
      obtain ⟨⟨dq, osq⟩, hw''⟩ := hw'
      subst hw''
      have hb2 := hb.trans ((below_regrown wr dq osq).mono hb.size)
      clear c0 e0 c1 e1 c2 e2 c3 e3 c4 e4 c5 e5 c6 e6 c7 e7 c8 e8
      generalize grow (redrawn wr dq) osq = wq at *
      go_wp2_with fail
      go_roundw
      case rel => exact ⟨k + 1, by go_num, hkn, hb2⟩
      case measure => simp [RowKit.intOf]; omega
    · go_wp2_with fail
      go_ret
      exact ⟨rfl, hb⟩

def textR (L : List Stp) : Value := match textO L with | some t => .tuple #[.string ⟨t.toArray⟩, .bool true] | none => .tuple #[.string ⟨#[]⟩, .bool false]
/-- The texts of the steps of a row are short. -/
def Shorts (L : List Stp) : Prop := ∀ s ∈ L, s.key.size ≤ 1000000000 ∧ s.en.size ≤ 1000000000 ∧ s.val.size ≤ 1000000000
set_option maxRecDepth 100000 in
set_option maxHeartbeats 2000000 in
theorem ref40_Text (A : Option Addr) (n c : Nat) (L : List Stp) (w : World) (h : Reads w w.heap.size 9 A n (L.flatMap stpL)) (hn : n ≤ 1000000) (hS : Shorts L) (hT : Tabs w) :
    Calls Tryd.prog 13 #[.slice A n c] w fun e w' => e = .returned (textR L) ∧ Below w.heap.size w w' := by
  have HN := Lib.hid (steps_n h)
  have H1 := Lib.hid h
  have HS := Lib.hid hS
  have HT := Lib.hid hT
  clear h hS hT
  go_enter Tryd.func13, Tryd.ntmps13
  go_wp2_with fail
  go_loopw [4, 5, 6] (fun v4 v5 _ wr => ∃ (k : Nat) (t : ByteArray), v4 = .string t ∧ v5 = .int .i64 k ∧ k ≤ n ∧ k ≤ 300 ∧ t.size ≤ 20000 ∧ Below w.heap.size w wr ∧ Hid (bl t = linesT (L.take k) ∧ ∀ s ∈ L.take k, lineP s ≠ [])) (fun _ v5 _ _ => n - (RowKit.intOf v5).toNat)
  case atStart => exact ⟨0, _, rfl, rfl, Nat.zero_le _, by omega, by show (0 : Nat) ≤ _; omega, Below.refl _ _, Lib.hid ⟨rfl, by simp⟩⟩
  case round =>
    obtain ⟨k, t, rfl, rfl, hk, hk3, ht, hb, HI⟩ := hrel
    have hbw := hb.size
    by_cases hkn : k < n
    · obtain ⟨b, off, rfl, hbl, hc⟩ := steps_at H1.out (by omega)
      have hkL : k < L.length := by rw [HN.out]; exact hkn
      have q1 := hc k hkL
      have HTK := Lib.hid (List.take_succ_eq_append_getElem hkL)
      have hsz := HS.out L[k] (List.getElem_mem hkL)
      have HE : Hid (lineP L[k] = [] → textO L = none) := Lib.hid (textO_empty hkL)
      obtain ⟨s, hs⟩ : ∃ s, L[k] = s := ⟨_, rfl⟩
      rw [hs] at q1 HTK hsz HE
      clear hs hc
      have r1 := row_cells q1 (w' := wr) (fun p hp => hb.cell (p := p) (by rw [hp]; exact hbl))
      have CL := Lib.hid (ref40_Line s wr hsz (HT.out.below hb))
      obtain ⟨l, hl⟩ : ∃ l, lineP s = l := ⟨_, rfl⟩
      have hlen := lineP_len s
      rw [hl] at CL HE hlen
      have HL := Lib.hid hl
      clear hl
      obtain ⟨y, hy⟩ : ∃ y : ByteArray, (⟨l.toArray⟩ : ByteArray) = y := ⟨_, rfl⟩
      have hyb : bl y = l := by rw [← hy]; rfl
      have hys : y.size = l.length := by rw [← hyb]; exact (bl_length y).symm
      have hys7 : y.size ≤ 700 := by omega
      rw [hy] at CL
      have HYB := Lib.hid hyb
      unfold stpC at CL
      have c0 : wr.cell? ⟨b, off + k * 9, none⟩ = some (.int .i64 s.kind) := r1 0 (by decide)
      have c1 : wr.cell? ⟨b, off + k * 9 + 1, none⟩ = some (.int .i64 s.n) := r1 1 (by decide)
      have c2 : wr.cell? ⟨b, off + k * 9 + 2, none⟩ = some (.int .i64 s.ticks) := r1 2 (by decide)
      have c3 : wr.cell? ⟨b, off + k * 9 + 3, none⟩ = some (.int .i64 s.tab) := r1 3 (by decide)
      have c4 : wr.cell? ⟨b, off + k * 9 + 4, none⟩ = some (.int .i64 s.lev) := r1 4 (by decide)
      have c5 : wr.cell? ⟨b, off + k * 9 + 5, none⟩ = some (.string s.key) := r1 5 (by decide)
      have c6 : wr.cell? ⟨b, off + k * 9 + 6, none⟩ = some (.string s.en) := r1 6 (by decide)
      have c7 : wr.cell? ⟨b, off + k * 9 + 7, none⟩ = some (.string s.val) := r1 7 (by decide)
      have c8 : wr.cell? ⟨b, off + k * 9 + 8, none⟩ = some (.int .i64 s.ctx) := r1 8 (by decide)
      clear q1 r1 hyb
      by_cases hl0 : l = []
      · have hye : y.toList.isEmpty = true := by rw [← hy, Go.ByteArray.toList_eq, hl0]; rfl
        have hye2 : y.toList = [] := by rw [← hy, Go.ByteArray.toList_eq, hl0]
        have FN := Lib.hid (HE.out hl0)
        clear hl0 hy hys
        go_wp2_with fail
        refine CL.out.mono ?_
        clear CL
        rintro e w1 ⟨rfl, b1⟩
        have hb2 := hb.trans (b1.mono hb.size)
        go_wp2_with fail
        go_returns
        exact ⟨by unfold textR; rw [FN.out]; rfl, hb2⟩
      have hye : y.toList.isEmpty = false := by rw [← hy, Go.ByteArray.toList_eq]; simpa using hl0
      have hye2 : ¬ y.toList = [] := by rw [← hy, Go.ByteArray.toList_eq]; exact hl0
      have HL0 := Lib.hid hl0
      clear hl0 hy
      by_cases h300 : k = 300
      · have FN : Hid (textO L = none) := Lib.hid (textO_many (by rw [HN.out]; omega))
        have hd : decide (300 ≤ (k : Int)) = true := by simp; omega
        clear hys h300
        go_wp2_with fail
        refine CL.out.mono ?_
        clear CL
        rintro e w1 ⟨rfl, b1⟩
        have hb2 := hb.trans (b1.mono hb.size)
        go_wp2_with fail
        go_returns
        exact ⟨by unfold textR; rw [FN.out]; rfl, hb2⟩
      have hd : decide (300 ≤ (k : Int)) = false := by simp; omega
      obtain ⟨t2, ht2⟩ : ∃ t2, t ++ (y ++ (⟨#[10]⟩ : ByteArray)) = t2 := ⟨_, rfl⟩
      have hts : t2.size = t.size + (y.size + 1) := by rw [← ht2, ByteArray.size_append, ByteArray.size_append]; rfl
      have HT2 : Hid (bl t2 = linesT (L.take (k + 1)) ∧ ∀ s ∈ L.take (k + 1), lineP s ≠ []) := Lib.hid ⟨by
        rw [HTK.out, linesT_snoc, ← ht2, bl_append, bl_append, HI.out.1, HL.out, HYB.out]
        rfl, by
        rw [HTK.out]
        intro u hu
        rcases List.mem_append.1 hu with hu | hu
        · exact HI.out.2 u hu
        · rw [List.mem_singleton.1 hu, HL.out]; exact HL0.out⟩
      have hsz2 : t2.size ≤ 20701 := by omega
      have ht3 : ∀ w, (binOp .add 9 (.string t) (.string (y ++ (⟨#[10]⟩ : ByteArray)))).run Tryd.prog w = .ok (.string t2) w := fun w => by
        rw [← ht2]
        have e1 : (y ++ (⟨#[10]⟩ : ByteArray)).size ≤ 800 := by rw [ByteArray.size_append]; show y.size + 1 ≤ _; omega
        simp [go_sem]
        omega
      clear hys hts
      by_cases hlong : 20000 < t2.size
      · have FN : Hid (textO L = none) := Lib.hid (textO_long (k := k + 1) (by rw [← HT2.out.1, bl_length]; exact hlong))
        have hd2 : decide ((t2.size : Int) > 20000) = true := by simp; omega
        go_wp2_with fail
        refine CL.out.mono ?_
        clear CL
        rintro e w1 ⟨rfl, b1⟩
        have hb2 := hb.trans (b1.mono hb.size)
        go_wp2_with fail
        go_returns
        exact ⟨by unfold textR; rw [FN.out]; rfl, hb2⟩
      have hd2 : decide ((t2.size : Int) > 20000) = false := by simp; omega
      go_wp2_with fail
      refine CL.out.mono ?_
      clear CL
      rintro e w1 ⟨rfl, b1⟩
      have hb2 := hb.trans (b1.mono hb.size)
      go_wp2_with fail
      go_roundw
      case rel => exact ⟨k + 1, t2, rfl, by go_num, hkn, by omega, by omega, hb2, HT2⟩
      case measure => simp [RowKit.intOf]; omega
    · have hke : k = n := by omega
      subst hke
      have F := Lib.hid (textO_ok (L := L) (by rw [HN.out]; exact hk3) (fun s hs => HI.out.2 s (by rw [List.take_of_length_le (by rw [HN.out]; exact Nat.le_refl _)]; exact hs)) (by
        have h := HI.out.1
        rw [List.take_of_length_le (by rw [HN.out]; exact Nat.le_refl _)] at h
        rw [← h, bl_length]
        exact ht))
      have F2 : Hid ((⟨(linesT L).toArray⟩ : ByteArray) = t) := Lib.hid (by
        have h := HI.out.1
        rw [List.take_of_length_le (by rw [HN.out]; exact Nat.le_refl _)] at h
        rw [← h]
        exact (bl_is t).symm)
      go_wp2_with fail
      go_returns
      exact ⟨by unfold textR; rw [F.out, ← F2.out]; rfl, hb⟩
end Go.Proofs.YtimmfcbpdnlfjaaDoor

namespace Go.Proofs.YtimmfcbpdnlfjaaDoor
open Go.RowKit Go.Sort
set_option linter.unusedVariables false
set_option linter.unusedSimpArgs false

theorem IsBld.below {B b : Nat} {l : List UInt8} {w w' : World} (h : IsBld B b l w) (hb : Below w.heap.size w w') : IsBld B b l w' := by
  have go : ∀ p, Lib.BuilderAt 61 5 B b p (Lib.byteCells l) w → Lib.BuilderAt 61 5 B b p (Lib.byteCells l) w' := by
    intro p h
    have hlt := h.lt
    obtain ⟨hB, v, hbk, hown, hne⟩ := h
    exact ⟨hB, v, (hb.block b hlt).trans hbk, own_below hown hb, hne⟩
  rcases h with h | h
  · exact .inl (go _ h)
  · exact .inr (go _ h)
theorem IsBld.base {B b : Nat} {l : List UInt8} {w : World} (h : IsBld B b l w) : B ≤ b := by
  rcases h with h | h <;> exact h.1
theorem IsBld.lt {B b : Nat} {l : List UInt8} {w : World} (h : IsBld B b l w) : b < w.heap.size := by
  rcases h with h | h <;> exact h.lt
def textV (L : List Stp) : Value := match textO L with | some t => .tuple #[.string ⟨t.toArray⟩, .int .i64 0] | none => .tuple #[.string ⟨#[]⟩, .int .i64 320]
set_option maxRecDepth 100000 in
set_option maxHeartbeats 2000000 in
theorem step_Text (A : Option Addr) (n c : Nat) (L : List Stp) (w : World) (h : Reads w w.heap.size 9 A n (L.flatMap stpL)) (hn : n ≤ 1000000) (hS : Shorts L) (hT : Tabs w) :
    Calls Tryd.prog 12 #[.slice A n c] w fun e w' => e = .returned (textV L) ∧ Below w.heap.size w w' := by
  have HN := Lib.hid (steps_n h)
  have H1 := Lib.hid h
  have HS := Lib.hid hS
  have HT := Lib.hid hT
  clear h hS hT
  go_enter Tryd.func12, Tryd.ntmps12
  by_cases hmany : 300 < n
  · have hd : decide ((n : Int) > 300) = true := by simp; omega
    have FN := Lib.hid (textO_many (L := L) (by rw [HN.out]; exact hmany))
    clear hmany
    go_wp2_with fail
    go_returns
    exact ⟨by unfold textV; rw [FN.out]; rfl, Below.refl _ _⟩
  have hd : decide ((n : Int) > 300) = false := by simp; omega
  have hn3 : n ≤ 300 := by omega
  go_upto_region 4 with fail
  have hfr := Lib.fresh_isBuilder 61 5 w
  have hB0 : IsBld w.heap.size w.heap.size [] (w.alloc (.cells #[.pointer none, .slice none 0 0] 61)) := hfr
  have b0 : Below w.heap.size w (w.alloc (.cells #[.pointer none, .slice none 0 0] 61)) := (Below.refl _ _).alloc (Nat.le_refl _) _
  clear hfr
  generalize w.alloc (.cells #[.pointer none, .slice none 0 0] 61) = W at *
  have HB0 := Lib.hid hB0
  clear hB0
  go_wp2_with fail
  go_loopw [6, 7, 13] (fun _ _ v13 wr => ∃ (k : Nat) (l : List UInt8), v13 = .int .i64 k ∧ k ≤ n ∧ l.length ≤ 20000 ∧ Below w.heap.size w wr ∧ Hid (IsBld w.heap.size w.heap.size l wr) ∧ Hid (l = linesT (L.take k) ∧ ∀ s ∈ L.take k, lineP s ≠ [])) (fun _ _ v13 _ => n - (RowKit.intOf v13).toNat)
  case atStart => exact ⟨0, _, rfl, Nat.zero_le _, by simp, b0, HB0, Lib.hid ⟨rfl, by simp⟩⟩
  case round =>
    obtain ⟨k, l, rfl, hk, hl, hb, HBL, HI⟩ := hrel
    have hbw := hb.size
    by_cases hkn : k < n
    · obtain ⟨b, off, rfl, hbl, hc⟩ := steps_at H1.out (by omega)
      have hkL : k < L.length := by rw [HN.out]; exact hkn
      have q1 := hc k hkL
      have HTK := Lib.hid (List.take_succ_eq_append_getElem hkL)
      have hsz := HS.out L[k] (List.getElem_mem hkL)
      have HE : Hid (lineP L[k] = [] → textO L = none) := Lib.hid (textO_empty hkL)
      obtain ⟨s, hs⟩ : ∃ s, L[k] = s := ⟨_, rfl⟩
      rw [hs] at q1 HTK hsz HE
      clear hs hc
      have r1 := row_cells q1 (w' := wr) (fun p hp => hb.cell (p := p) (by rw [hp]; exact hbl))
      obtain ⟨W2, hW2⟩ : ∃ W2, wr.alloc (.cells (stpC s) 26) = W2 := ⟨_, rfl⟩
      have a2 : Below wr.heap.size wr W2 := by rw [← hW2]; exact (Below.refl _ _).alloc (Nat.le_refl _) _
      have BS : Blk W2 wr.heap.size 26 (stpC s) := by rw [← hW2]; exact Blk.new _ _ _
      have HW2 := Lib.hid hW2
      clear hW2
      have hb2 := hb.trans (a2.mono hbw)
      have hbw2 := hb2.size
      have HBL2 := Lib.hid (HBL.out.below a2)
      have CL := Lib.hid (step_Line s W2 hsz (HT.out.below hb2))
      obtain ⟨ln, hln⟩ : ∃ ln, lineP s = ln := ⟨_, rfl⟩
      have hlen := lineP_len s
      rw [hln] at CL HE hlen
      have HL := Lib.hid hln
      clear hln
      obtain ⟨y, hy⟩ : ∃ y : ByteArray, (⟨ln.toArray⟩ : ByteArray) = y := ⟨_, rfl⟩
      have hyb : bl y = ln := by rw [← hy]; rfl
      have hys : y.size = ln.length := by rw [← hyb]; exact (bl_length y).symm
      have hys7 : y.size ≤ 700 := by omega
      rw [hy] at CL
      have HYB := Lib.hid hyb
      have c0 : wr.cell? ⟨b, off + k * 9, none⟩ = some (.int .i64 s.kind) := r1 0 (by decide)
      have c1 : wr.cell? ⟨b, off + k * 9 + 1, none⟩ = some (.int .i64 s.n) := r1 1 (by decide)
      have c2 : wr.cell? ⟨b, off + k * 9 + 2, none⟩ = some (.int .i64 s.ticks) := r1 2 (by decide)
      have c3 : wr.cell? ⟨b, off + k * 9 + 3, none⟩ = some (.int .i64 s.tab) := r1 3 (by decide)
      have c4 : wr.cell? ⟨b, off + k * 9 + 4, none⟩ = some (.int .i64 s.lev) := r1 4 (by decide)
      have c5 : wr.cell? ⟨b, off + k * 9 + 5, none⟩ = some (.string s.key) := r1 5 (by decide)
      have c6 : wr.cell? ⟨b, off + k * 9 + 6, none⟩ = some (.string s.en) := r1 6 (by decide)
      have c7 : wr.cell? ⟨b, off + k * 9 + 7, none⟩ = some (.string s.val) := r1 7 (by decide)
      have c8 : wr.cell? ⟨b, off + k * 9 + 8, none⟩ = some (.int .i64 s.ctx) := r1 8 (by decide)
      have d0 : W2.cell? ⟨wr.heap.size, 0, none⟩ = some (.int .i64 s.kind) := BS.cell 0
      have d1 : W2.cell? ⟨wr.heap.size, 1, none⟩ = some (.int .i64 s.n) := BS.cell 1
      have d2 : W2.cell? ⟨wr.heap.size, 2, none⟩ = some (.int .i64 s.ticks) := BS.cell 2
      have d3 : W2.cell? ⟨wr.heap.size, 3, none⟩ = some (.int .i64 s.tab) := BS.cell 3
      have d4 : W2.cell? ⟨wr.heap.size, 4, none⟩ = some (.int .i64 s.lev) := BS.cell 4
      have d5 : W2.cell? ⟨wr.heap.size, 5, none⟩ = some (.string s.key) := BS.cell 5
      have d6 : W2.cell? ⟨wr.heap.size, 6, none⟩ = some (.string s.en) := BS.cell 6
      have d7 : W2.cell? ⟨wr.heap.size, 7, none⟩ = some (.string s.val) := BS.cell 7
      have d8 : W2.cell? ⟨wr.heap.size, 8, none⟩ = some (.int .i64 s.ctx) := BS.cell 8
      unfold stpC at CL HW2
      clear q1 r1 hyb BS
      go_upto_region 7 with fail
      rw [HW2.out]
      clear HW2
      clear c0 c1 c2 c3 c4 c5 c6 c7 c8
      by_cases hl0 : ln = []
      · have hye : y.toList.isEmpty = true := by rw [← hy, Go.ByteArray.toList_eq, hl0]; rfl
        have hye2 : y.toList = [] := by rw [← hy, Go.ByteArray.toList_eq, hl0]
        have FN := Lib.hid (HE.out hl0)
        clear hl0 hy hys
        go_wp2_with fail
        refine CL.out.mono ?_
        clear CL
        rintro e w1 ⟨rfl, b1⟩
        have hb3 := hb2.trans (b1.mono hb2.size)
        go_wp2_with fail
        go_returns
        exact ⟨by unfold textV; rw [FN.out]; rfl, hb3⟩
      have hye : y.toList.isEmpty = false := by rw [← hy, Go.ByteArray.toList_eq]; simpa using hl0
      have hye2 : ¬ y.toList = [] := by rw [← hy, Go.ByteArray.toList_eq]; exact hl0
      have HL0 := Lib.hid hl0
      clear hl0 hy
      have HNX : Hid (l ++ bl y ++ [10] = linesT (L.take (k + 1)) ∧ ∀ s ∈ L.take (k + 1), lineP s ≠ []) := Lib.hid ⟨by
        rw [HTK.out, linesT_snoc, HI.out.1, HL.out, HYB.out, List.append_assoc], by
        rw [HTK.out]
        intro u hu
        rcases List.mem_append.1 hu with hu | hu
        · exact HI.out.2 u hu
        · rw [List.mem_singleton.1 hu, HL.out]; exact HL0.out⟩
      have hnl : (l ++ bl y ++ [10]).length = l.length + y.size + 1 := by rw [List.length_append, List.length_append, bl_length]; rfl
      have HNL := Lib.hid hnl
      obtain ⟨m, hm⟩ : ∃ m, l.length = m := ⟨_, rfl⟩
      have HM := Lib.hid hm
      rw [hm] at hl
      clear hnl hm hys
      by_cases hlong : 20000 < m + y.size + 1
      · have FN : Hid (textO L = none) := Lib.hid (textO_long (k := k + 1) (by rw [← HNX.out.1, HNL.out, HM.out]; exact hlong))
        have hd2 : decide ((m : Int) > 20000 - (y.size : Int) - 1) = true := by simp; omega
        clear hlong
        go_wp2_with fail
        refine CL.out.mono ?_
        clear CL
        rintro e w1 ⟨rfl, b1⟩
        have hb3 := hb2.trans (b1.mono hb2.size)
        have CN := Lib.hid (bld_Len _ _ _ _ (HBL2.out.below b1))
        rw [HM.out] at CN
        go_wp2_with fail
        refine CN.out.mono ?_
        clear CN
        rintro e w3 ⟨rfl, rfl⟩
        go_wp2_with fail
        go_returns
        exact ⟨by unfold textV; rw [FN.out]; rfl, hb3⟩
      have hd2 : decide ((m : Int) > 20000 - (y.size : Int) - 1) = false := by simp; omega
      have hle2 : m + y.size + 1 ≤ 20000 := by omega
      clear hlong
      go_wp2_with fail
      refine CL.out.mono ?_
      clear CL
      rintro e w1 ⟨rfl, b1⟩
      have hb3 := hb2.trans (b1.mono hb2.size)
      have HB3 := Lib.hid (HBL2.out.below b1)
      have CN := Lib.hid (bld_Len _ _ _ _ HB3.out)
      rw [HM.out] at CN
      go_wp2_with fail
      refine CN.out.mono ?_
      clear CN
      rintro e w3 ⟨rfl, rfl⟩
      have CW := Lib.hid (bld_WriteString _ _ _ y _ HB3.out (by rw [HM.out]; omega) hb3.size)
      go_wp2_with fail
      refine CW.out.mono ?_
      clear CW
      rintro e w4 ⟨rfl, h4, b4⟩
      have hb4 := hb3.trans b4
      have CB := Lib.hid (bld_WriteByte _ _ _ 10 _ (.inr h4) (by rw [List.length_append, bl_length, HM.out]; omega) hb4.size)
      rw [show (((10 : UInt8).toNat : Nat) : Int) = 10 from rfl] at CB
      go_wp2_with fail
      refine CB.out.mono ?_
      clear CB
      rintro e w5 ⟨rfl, h5, b5⟩
      have hb5 := hb4.trans b5
      have HB5 : Hid (IsBld w.heap.size w.heap.size (l ++ bl y ++ [10]) w5) := Lib.hid (.inr h5)
      clear h4 h5
      go_wp2_with fail
      go_roundw
      case rel => exact ⟨k + 1, _, by go_num, hkn, by rw [HNL.out, HM.out]; exact hle2, hb5, HB5, HNX⟩
      case measure => simp [RowKit.intOf]; omega
    · have hke : k = n := by omega
      subst hke
      have F := Lib.hid (textO_ok (L := L) (by rw [HN.out]; exact hn3) (fun s hs => HI.out.2 s (by rw [List.take_of_length_le (by rw [HN.out]; exact Nat.le_refl _)]; exact hs)) (by
        have h := HI.out.1
        rw [List.take_of_length_le (by rw [HN.out]; exact Nat.le_refl _)] at h
        rw [← h]
        exact hl))
      have F2 : Hid (linesT L = l) := Lib.hid (by
        have h := HI.out.1
        rw [List.take_of_length_le (by rw [HN.out]; exact Nat.le_refl _)] at h
        exact h.symm)
      have CS := Lib.hid (bld_String _ _ _ _ HBL.out hbw)
      go_wp2_with fail
      refine CS.out.mono ?_
      clear CS
      rintro e w1 ⟨rfl, b1⟩
      go_wp2_with fail
      go_returns
      exact ⟨by unfold textV; rw [F.out, F2.out]; rfl, hb.trans b1⟩
end Go.Proofs.YtimmfcbpdnlfjaaDoor

namespace Go.Proofs.YtimmfcbpdnlfjaaDoor
open Go.RowKit Go.Sort
set_option linter.unusedVariables false
set_option linter.unusedSimpArgs false

/-- The slice value v owns just these steps, in a block from base on. -/
def OwnSp (w : World) (base : Nat) (v : Value) (L : List Stp) : Prop := w.ownsRow base 26 9 v L.length (L.flatMap stpL)
section
variable {w w' : World} {base base' : Nat} {v : Value} {L : List Stp}
theorem OwnSp.nil_ (w : World) (base : Nat) : OwnSp w base (.slice none 0 0) [] := World.ownsRow_nil _ _ _ _
theorem OwnSp.below (h : OwnSp w base v L) (b : Below w.heap.size w w') : OwnSp w' base v L := own_below h b
theorem OwnSp.alloc (h : OwnSp w base v L) (o : Obj) : OwnSp (w.alloc o) base v L := World.ownsRow.alloc h o
theorem OwnSp.base_le (h : OwnSp w base v L) (hb : base' ≤ base) : OwnSp w base' v L := own_base h hb
theorem OwnSp.lt (h : OwnSp w base v L) : ∀ k, v.ownBlock = some k → base ≤ k ∧ k < w.heap.size := World.ownsRow.lt h
theorem OwnSp.reads (h : OwnSp w base v L) : ∃ A c, v = .slice A L.length c ∧ L.length ≤ c ∧ (A = none → c = 0) ∧ Reads w w.heap.size 9 A L.length (L.flatMap stpL) := by
  obtain ⟨A, c, hv, hc, hA, _⟩ := own_form h
  subst hv
  exact ⟨A, c, rfl, hc, hA, Reads.of_own h⟩
end
theorem stp_one (s : Stp) : ∀ u ∈ stpL s, u.oneCell' = true := fun u hu => by
  simp only [stpL, stpC, List.mem_cons, List.mem_nil_iff, or_false] at hu
  rcases hu with rfl | rfl | rfl | rfl | rfl | rfl | rfl | rfl | rfl <;> rfl
theorem info_stp : (Tryd.prog.info? 26).map (fun i => (i.zero, i.size, i.bytes)) = some (some (.agg #[.int .i64 0, .int .i64 0, .int .i64 0, .int .i64 0, .int .i64 0, .string ⟨#[]⟩, .string ⟨#[]⟩, .string ⟨#[]⟩, .int .i64 0]), 9, 96) := by kernel_rfl
theorem append_stp {ops : Array Oper} {rest : List Oper} {o : Oper} {a : Act} {Q : Exit → Act → World → Prop} (w : World) (s : Stp) (u : Array Value) (hu : u.toList = stpL s) (t : TypeId) (hgd : o.guard = none) (sl x : Operand)
    (ho : o.op = .call { callee := .builtin .append, args := #[sl, x], argTypes := #[35, 35] }) (base : Nat) (v : Value) (S : List Stp) (hs : a.eval sl = v) (hown : OwnSp w base v S)
    (hx : a.eval x = .slice (some ⟨w.heap.size, 0, none⟩) 1 1) (hlen : S.length ≤ 1000000) (hbase : base ≤ w.heap.size)
    (h : ∀ v' w', OwnSp w' base v' (S ++ [s]) → w.grownBy w' v.ownBlock → wpList Tryd.prog ops Q rest (a.put o.dst v') w') :
    wpList Tryd.prog ops Q (o :: rest) a (w.alloc (.cells u t)) := by
  refine append_elem w u (stpL s) hu t hgd sl x 35 ho base 26 _ 9 96 Tryd.underlying35 info_stp rfl (by decide) v S.length (S.flatMap stpL) hs hown rfl (stp_one s) hx (by unfold maxLen; omega) (by omega) hbase ?_
  intro v' w' h1 h2 _
  refine h v' w' ?_ h2
  unfold OwnSp
  rw [List.length_append, List.flatMap_append, List.flatMap_singleton]
  exact h1
theorem lin_len : ∀ (l a y : List UInt8), y ∈ lin a l → y.length ≤ a.length + l.length
  | [], [], y, h => by simp [lin] at h
  | [], c :: a, y, h => by
    rw [lin_end _ (by simp)] at h
    rw [List.mem_singleton.1 h]
    omega
  | c :: r, a, y, h => by
    rw [lin_cons] at h
    split at h
    · rcases List.mem_cons.1 h with rfl | h
      · omega
      · have := lin_len r [] y h
        rw [List.length_nil] at this
        rw [List.length_cons]
        omega
    · have := lin_len r (a ++ [c]) y h
      rw [List.length_append] at this
      rw [List.length_cons]
      simp at this
      omega
theorem linesP_len {l y : List UInt8} (h : y ∈ linesP l) : y.length ≤ l.length := by
  have := lin_len l [] y h
  simpa using this
theorem lin_many : ∀ (l a : List UInt8), (lin a l).length ≤ l.length + 1
  | [], [] => by simp [lin]
  | [], c :: a => by rw [lin_end _ (by simp)]; simp
  | c :: r, a => by
    rw [lin_cons]
    split
    · have := lin_many r []
      rw [List.length_cons, List.length_cons]
      omega
    · have := lin_many r (a ++ [c])
      rw [List.length_cons]
      omega
/-- What a reader of a text ends in: the steps in a row of its own, the line, the error. -/
def ParsedE (w : World) (t : List UInt8) (er : Bool → Value) (e : Ending) (w' : World) : Prop := ∃ v, e = .returned (.tuple #[v, .int .i64 (parseP t).2.1, er (parseP t).2.2]) ∧ OwnSp w' w.heap.size v (parseP t).1 ∧ Below w.heap.size w w'
theorem ParsedE.none_ {w w' : World} {t : List UInt8} {er : Bool → Value} {i : Int} {x : Value} {k : Nat} (h : parseP t = ([], k, false)) (hi : i = k) (hx : x = er false) (b : Below w.heap.size w w') : ParsedE w t er (.returned (.tuple #[.slice none 0 0, .int .i64 i, x])) w' :=
  ⟨_, by rw [h, hi, hx], by rw [h]; exact OwnSp.nil_ _ _, b⟩
theorem ParsedE.some_ {w w' : World} {t : List UInt8} {er : Bool → Value} {x v : Value} {L : List Stp} (h : parseP t = (L, 0, true)) (hx : x = er true) (b : Below w.heap.size w w') (ho : OwnSp w' w.heap.size v L) : ParsedE w t er (.returned (.tuple #[v, .int .i64 0, x])) w' :=
  ⟨_, by rw [h, hx]; rfl, by rw [h]; exact ho, b⟩
def erP : Bool → Value := fun q => .int .i64 (if q then 0 else 320)
def erR : Bool → Value := fun q => .bool q

set_option maxRecDepth 100000 in
set_option maxHeartbeats 2000000 in
theorem step_Parse (x : ByteArray) (w : World) (hx : x.size ≤ 1000000000) (hT : Tabs w) :
    Calls Tryd.prog 14 #[.string x] w (ParsedE w (bl x) erP) := by
  have HT := Lib.hid hT
  clear hT
  have CL := Lib.hid (runes_Lines x hx w)
  obtain ⟨L, hL⟩ : ∃ L, bl x = L := ⟨_, rfl⟩
  have hxl : x.size = L.length := by rw [← hL]; exact (bl_length x).symm
  rw [hL] at CL ⊢
  clear hL
  by_cases hlong : 20000 < x.size
  · have hd : decide ((x.size : Int) > 20000) = true := by simp; omega
    have FN : Hid (parseP L = ([], 0, false)) := Lib.hid (by unfold parseP; rw [if_pos (by omega)])
    clear hlong hxl
    go_enter Tryd.func14, Tryd.ntmps14
    go_wp2_with fail
    go_returns
    exact ParsedE.none_ FN.out rfl rfl (Below.refl _ _)
  have hd : decide ((x.size : Int) > 20000) = false := by simp; omega
  have HP : Hid (parseP L = parseL (linesP L) 0 []) := Lib.hid (by unfold parseP; rw [if_neg (by omega)])
  have HLL : Hid (∀ y ∈ linesP L, y.length ≤ 20000) := Lib.hid (fun y hy => by have := linesP_len hy; omega)
  have hmm : (linesP L).length ≤ 20001 := by have := lin_many L []; unfold linesP; omega
  obtain ⟨ls, hls⟩ : ∃ ls, linesP L = ls := ⟨_, rfl⟩
  rw [hls] at CL HP HLL hmm
  clear hls hxl
  go_enter Tryd.func14, Tryd.ntmps14
  go_wp2_with fail
  refine CL.out.mono ?_
  clear CL
  rintro e w1 ⟨v1, rfl, o1, b1⟩
  obtain ⟨A, c, hv, hcn, hA0, hr⟩ := o1.reads
  subst hv
  obtain ⟨m, hm⟩ : ∃ m, ls.length = m := ⟨_, rfl⟩
  rw [hm] at hr hmm ⊢
  have HM := Lib.hid hm
  have HR := Lib.hid hr
  have HT1 := Lib.hid (HT.out.below b1)
  have hO0 := Lib.hid (OwnSp.nil_ w1 w1.heap.size)
  clear hm hr o1 hA0 hcn
  go_wp2_with fail
  go_loopw [5, 6, 7, 8, 9, 16] (fun v5 _ _ _ _ v16 wr => ∃ (k : Nat) (out : List Stp), v16 = .int .i64 k ∧ k ≤ m ∧ out.length ≤ 300 ∧ Hid (OwnSp wr w1.heap.size v5 out) ∧ Below w1.heap.size w1 wr ∧ Hid (parseL ls 0 [] = parseL (ls.drop k) k out)) (fun _ _ _ _ _ v16 _ => m - (RowKit.intOf v16).toNat)
  case atStart => exact ⟨0, [], rfl, Nat.zero_le _, by simp, hO0, Below.refl _ _, Lib.hid rfl⟩
  case round =>
    obtain ⟨k, out, rfl, hk, hout, HO, hb, HI⟩ := hrel
    by_cases hkm : k < m
    · obtain ⟨b, off, hA, hbg, hc⟩ := Reads.form HR.out (by omega)
      subst hA
      have hkL : k < ls.length := by rw [HM.out]; exact hkm
      have q1 : wr.cell? ⟨b, off + k, none⟩ = some (sv ls[k]) := by
        rw [hb.cell (p := ⟨b, off + k, none⟩) hbg]
        exact hc k _ (by simp [hkL])
      have HD := Lib.hid (List.drop_eq_getElem_cons hkL)
      have hln := HLL.out ls[k] (List.getElem_mem hkL)
      clear hc
      obtain ⟨L2, hL2⟩ : ∃ L2, ls[k] = L2 := ⟨_, rfl⟩
      rw [hL2] at q1 HD hln
      clear hL2
      obtain ⟨y, hy⟩ : ∃ y : ByteArray, (⟨L2.toArray⟩ : ByteArray) = y := ⟨_, rfl⟩
      have hyb : bl y = L2 := by rw [← hy]; rfl
      have hys : y.size ≤ 20000 := by have := bl_length y; rw [hyb] at this; omega
      unfold sv at q1
      rw [hy] at q1
      have CW := Lib.hid (runes_Words y (by omega) wr)
      rw [hyb] at CW
      rw [HD.out] at HI
      go_wp2_with fail
      refine CW.out.mono ?_
      clear CW
      rintro e w2 ⟨v2, rfl, o2, b2⟩
      obtain ⟨A2, c2, hv2, -, -, -⟩ := o2.reads
      subst hv2
      have HO2 := Lib.hid (HO.out.below b2)
      have hb2 := hb.trans (b2.mono hb.size)
      clear o2
      obtain ⟨n2, hn2⟩ : ∃ n2, (wordsP L2).length = n2 := ⟨_, rfl⟩
      rw [hn2]
      by_cases h0 : n2 = 0
      · have hw : wordsP L2 = [] := List.eq_nil_of_length_eq_zero (by omega)
        rw [parseL_blank _ _ _ hw] at HI
        subst h0
        clear hn2 hw q1 hy hyb
        go_wp2_with fail
        go_roundw
        case rel => exact ⟨k + 1, out, by go_num, hkm, hout, HO2, hb2, HI⟩
        case measure => simp [RowKit.intOf]; omega
      have hw : wordsP L2 ≠ [] := fun e => h0 (by rw [← hn2, e]; rfl)
      have h0d : ((n2 : Int) == 0) = false := by simp; omega
      have HWN := Lib.hid hw
      clear hn2 h0 hw
      have CR := Lib.hid (step_Read y w2 (by omega) (HT1.out.below hb2))
      rw [hyb] at CR
      have q2 : w2.cell? ⟨b, off + k, none⟩ = some (.string y) := by
        rw [← q1]
        exact b2.cell (p := ⟨b, off + k, none⟩) (by show b < _; have := hb.size; omega)
      clear hy hyb
      cases hr : readP L2 with
      | none =>
        rw [parseL_none _ _ _ HWN.out hr] at HI
        have e1 : readV L2 = .tuple #[.agg (stpC stpZ), .int .i64 320] := by unfold readV; rw [hr]
        rw [e1] at CR
        unfold stpC stpZ bareK at CR
        go_wp2_with fail
        refine CR.out.mono ?_
        clear CR e1
        rintro e w3 ⟨rfl, b3⟩
        have hb3 := hb2.trans (b3.mono (Nat.le_trans hb.size b2.size))
        have ho3 := Lib.hid (HO2.out.below b3)
        obtain ⟨W4, hW4⟩ : ∃ W4, w3.alloc (.cells (stpC stpZ) 26) = W4 := ⟨_, rfl⟩
        have a4 : Below w3.heap.size w3 W4 := by rw [← hW4]; exact (Below.refl _ _).alloc (Nat.le_refl _) _
        have B4 : Blk W4 w3.heap.size 26 (stpC stpZ) := by rw [← hW4]; exact Blk.new _ _ _
        have HW4 := Lib.hid hW4
        clear hW4 b3
        unfold stpC stpZ bareK at HW4
        have hb4 := hb3.trans (a4.mono hb3.size)
        have HO4 := Lib.hid (ho3.out.below a4)
        clear a4 ho3
        clear hr
        go_upto_region 9 with fail
        rw [HW4.out]
        clear HW4
        have FN : Hid (parseP L = ([], k + 1, false)) := Lib.hid (by rw [HP.out, HI.out])
        clear B4
        go_wp2_with fail
        go_returns
        exact ParsedE.none_ FN.out (by go_num) rfl (b1.trans (hb4.mono b1.size))
      | some s =>
        have e1 : readV L2 = .tuple #[.agg (stpC s), .int .i64 0] := by unfold readV; rw [hr]
        rw [e1] at CR
        unfold stpC at CR
        go_wp2_with fail
        refine CR.out.mono ?_
        clear CR e1
        rintro e w3 ⟨rfl, b3⟩
        have hb3 := hb2.trans (b3.mono (Nat.le_trans hb.size b2.size))
        have ho3 := Lib.hid (HO2.out.below b3)
        obtain ⟨W4, hW4⟩ : ∃ W4, w3.alloc (.cells (stpC s) 26) = W4 := ⟨_, rfl⟩
        have a4 : Below w3.heap.size w3 W4 := by rw [← hW4]; exact (Below.refl _ _).alloc (Nat.le_refl _) _
        have B4 : Blk W4 w3.heap.size 26 (stpC s) := by rw [← hW4]; exact Blk.new _ _ _
        have HW4 := Lib.hid hW4
        clear hW4 b3
        unfold stpC at HW4
        have hb4 := hb3.trans (a4.mono hb3.size)
        have HO4 := Lib.hid (ho3.out.below a4)
        clear a4 ho3
        go_upto_region 9 with fail
        rw [HW4.out]
        clear HW4
        by_cases hfull : out.length = 300
        · rw [parseL_full _ _ _ HWN.out hfull] at HI
          have FN : Hid (parseP L = ([], k + 1, false)) := Lib.hid (by rw [HP.out, HI.out])
          obtain ⟨A5, c5, hv5, -, -, -⟩ := HO4.out.reads
          rw [hfull] at hv5
          subst hv5
          clear hr hfull

          clear B4
          go_wp2_with fail
          go_returns
          exact ParsedE.none_ FN.out (by go_num) rfl (b1.trans (hb4.mono b1.size))
        rw [parseL_some _ _ _ s HWN.out hr hfull] at HI
        obtain ⟨A5, c5, hv5, -, -, -⟩ := HO4.out.reads
        obtain ⟨no, hno⟩ : ∃ no, out.length = no := ⟨_, rfl⟩
        rw [hno] at hv5 hfull hout
        subst hv5
        have hfd : ((no : Int) == 300) = false := by simp; omega
        have hfd2 : decide ((no : Int) ≥ 300) = false := by simp; omega
        have hno3 : no < 300 := by omega
        have HNO := Lib.hid hno
        clear hr hfull hno
        have d0 : W4.cell? ⟨w3.heap.size, 0, none⟩ = some (.int .i64 s.kind) := B4.cell 0
        have d1 : W4.cell? ⟨w3.heap.size, 1, none⟩ = some (.int .i64 s.n) := B4.cell 1
        have d2 : W4.cell? ⟨w3.heap.size, 2, none⟩ = some (.int .i64 s.ticks) := B4.cell 2
        have d3 : W4.cell? ⟨w3.heap.size, 3, none⟩ = some (.int .i64 s.tab) := B4.cell 3
        have d4 : W4.cell? ⟨w3.heap.size, 4, none⟩ = some (.int .i64 s.lev) := B4.cell 4
        have d5 : W4.cell? ⟨w3.heap.size, 5, none⟩ = some (.string s.key) := B4.cell 5
        have d6 : W4.cell? ⟨w3.heap.size, 6, none⟩ = some (.string s.en) := B4.cell 6
        have d7 : W4.cell? ⟨w3.heap.size, 7, none⟩ = some (.string s.val) := B4.cell 7
        have d8 : W4.cell? ⟨w3.heap.size, 8, none⟩ = some (.int .i64 s.ctx) := B4.cell 8
        clear B4
        go_wp2_with (at_builtin; go_must (refine append_stp W4 s _ rfl _ rfl _ _ rfl w1.heap.size _ out rfl HO4.out rfl (by rw [HNO.out]; omega) hb4.size ?_))
        intro v6 w6 o6 g6
        have hb6 : Below w1.heap.size w1 w6 := hb4.grown g6 hb4.size (fun q hq => (HO4.out.lt q hq).1)
        have HO6 := Lib.hid o6
        clear o6 g6
        go_wp2_with fail
        go_roundw
        case rel => exact ⟨k + 1, _, by go_num, hkm, by rw [List.length_append, HNO.out]; simp; omega, HO6, hb6, HI⟩
        case measure => simp [RowKit.intOf]; omega
    · have hke : k = m := by omega
      subst hke
      have FN : Hid (parseP L = (out, 0, true)) := Lib.hid (by
        rw [HP.out, HI.out, List.drop_of_length_le (by rw [HM.out]; exact Nat.le_refl _)]
        rfl)
      go_wp2_with fail
      go_returns
      exact ParsedE.some_ FN.out rfl (b1.trans (hb.mono b1.size)) (HO.out.base_le b1.size)

set_option maxRecDepth 100000 in
set_option maxHeartbeats 2000000 in
theorem ref40_Parse (x : ByteArray) (w : World) (hx : x.size ≤ 1000000000) (hT : Tabs w) :
    Calls Tryd.prog 15 #[.string x] w (ParsedE w (bl x) erR) := by
  have HT := Lib.hid hT
  clear hT
  have CL := Lib.hid (ref01_Lines x hx w)
  obtain ⟨L, hL⟩ : ∃ L, bl x = L := ⟨_, rfl⟩
  have hxl : x.size = L.length := by rw [← hL]; exact (bl_length x).symm
  rw [hL] at CL ⊢
  clear hL
  by_cases hlong : 20000 < x.size
  · have hd : decide ((x.size : Int) > 20000) = true := by simp; omega
    have FN : Hid (parseP L = ([], 0, false)) := Lib.hid (by unfold parseP; rw [if_pos (by omega)])
    clear hlong hxl
    go_enter Tryd.func15, Tryd.ntmps15
    go_wp2_with fail
    go_returns
    exact ParsedE.none_ FN.out rfl rfl (Below.refl _ _)
  have hd : decide ((x.size : Int) > 20000) = false := by simp; omega
  have HP : Hid (parseP L = parseL (linesP L) 0 []) := Lib.hid (by unfold parseP; rw [if_neg (by omega)])
  have HLL : Hid (∀ y ∈ linesP L, y.length ≤ 20000) := Lib.hid (fun y hy => by have := linesP_len hy; omega)
  have hmm : (linesP L).length ≤ 20001 := by have := lin_many L []; unfold linesP; omega
  obtain ⟨ls, hls⟩ : ∃ ls, linesP L = ls := ⟨_, rfl⟩
  rw [hls] at CL HP HLL hmm
  clear hls hxl
  go_enter Tryd.func15, Tryd.ntmps15
  go_wp2_with fail
  refine CL.out.mono ?_
  clear CL
  rintro e w1 ⟨v1, rfl, o1, b1⟩
  obtain ⟨A, c, hv, hcn, hA0, hr⟩ := o1.reads
  subst hv
  obtain ⟨m, hm⟩ : ∃ m, ls.length = m := ⟨_, rfl⟩
  rw [hm] at hr hmm ⊢
  have HM := Lib.hid hm
  have HR := Lib.hid hr
  have HT1 := Lib.hid (HT.out.below b1)
  have hO0 := Lib.hid (OwnSp.nil_ w1 w1.heap.size)
  clear hm hr o1 hA0 hcn
  go_wp2_with fail
  go_loopw [5, 7, 8, 9] (fun v5 v7 _ _ wr => ∃ (k : Nat) (out : List Stp), v7 = .int .i64 k ∧ k ≤ m ∧ out.length ≤ 300 ∧ Hid (OwnSp wr w1.heap.size v5 out) ∧ Below w1.heap.size w1 wr ∧ Hid (parseL ls 0 [] = parseL (ls.drop k) k out)) (fun _ v7 _ _ _ => m - (RowKit.intOf v7).toNat)
  case atStart => exact ⟨0, [], rfl, Nat.zero_le _, by simp, hO0, Below.refl _ _, Lib.hid rfl⟩
  case round =>
    obtain ⟨k, out, rfl, hk, hout, HO, hb, HI⟩ := hrel
    by_cases hkm : k < m
    · obtain ⟨b, off, hA, hbg, hc⟩ := Reads.form HR.out (by omega)
      subst hA
      have hkL : k < ls.length := by rw [HM.out]; exact hkm
      have q1 : wr.cell? ⟨b, off + k, none⟩ = some (sv ls[k]) := by
        rw [hb.cell (p := ⟨b, off + k, none⟩) hbg]
        exact hc k _ (by simp [hkL])
      have HD := Lib.hid (List.drop_eq_getElem_cons hkL)
      have hln := HLL.out ls[k] (List.getElem_mem hkL)
      clear hc
      obtain ⟨L2, hL2⟩ : ∃ L2, ls[k] = L2 := ⟨_, rfl⟩
      rw [hL2] at q1 HD hln
      clear hL2
      obtain ⟨y, hy⟩ : ∃ y : ByteArray, (⟨L2.toArray⟩ : ByteArray) = y := ⟨_, rfl⟩
      have hyb : bl y = L2 := by rw [← hy]; rfl
      have hys : y.size ≤ 20000 := by have := bl_length y; rw [hyb] at this; omega
      unfold sv at q1
      rw [hy] at q1
      have CW := Lib.hid (ref01_Words y (by omega) wr)
      rw [hyb] at CW
      rw [HD.out] at HI
      go_wp2_with fail
      refine CW.out.mono ?_
      clear CW
      rintro e w2 ⟨v2, rfl, o2, b2⟩
      obtain ⟨A2, c2, hv2, -, -, -⟩ := o2.reads
      subst hv2
      have HO2 := Lib.hid (HO.out.below b2)
      have hb2 := hb.trans (b2.mono hb.size)
      clear o2
      obtain ⟨n2, hn2⟩ : ∃ n2, (wordsP L2).length = n2 := ⟨_, rfl⟩
      rw [hn2]
      by_cases h0 : n2 = 0
      · have hw : wordsP L2 = [] := List.eq_nil_of_length_eq_zero (by omega)
        rw [parseL_blank _ _ _ hw] at HI
        subst h0
        clear hn2 hw q1 hy hyb
        go_wp2_with fail
        go_roundw
        case rel => exact ⟨k + 1, out, by go_num, hkm, hout, HO2, hb2, HI⟩
        case measure => simp [RowKit.intOf]; omega
      have hw : wordsP L2 ≠ [] := fun e => h0 (by rw [← hn2, e]; rfl)
      have h0d : ((n2 : Int) == 0) = false := by simp; omega
      have HWN := Lib.hid hw
      clear hn2 h0 hw
      have CR := Lib.hid (ref40_Read y w2 (by omega) (HT1.out.below hb2))
      rw [hyb] at CR
      have q2 : w2.cell? ⟨b, off + k, none⟩ = some (.string y) := by
        rw [← q1]
        exact b2.cell (p := ⟨b, off + k, none⟩) (by show b < _; have := hb.size; omega)
      clear hy hyb
      cases hr : readP L2 with
      | none =>
        rw [parseL_none _ _ _ HWN.out hr] at HI
        have e1 : refRV L2 = .tuple #[.agg (stpC stpZ), .bool false] := by unfold refRV; rw [hr]
        rw [e1] at CR
        unfold stpC stpZ bareK at CR
        go_wp2_with fail
        refine CR.out.mono ?_
        clear CR e1
        rintro e w3 ⟨rfl, b3⟩
        have hb3 := hb2.trans (b3.mono (Nat.le_trans hb.size b2.size))
        have ho3 := Lib.hid (HO2.out.below b3)
        obtain ⟨W4, hW4⟩ : ∃ W4, w3.alloc (.cells (stpC stpZ) 26) = W4 := ⟨_, rfl⟩
        have a4 : Below w3.heap.size w3 W4 := by rw [← hW4]; exact (Below.refl _ _).alloc (Nat.le_refl _) _
        have B4 : Blk W4 w3.heap.size 26 (stpC stpZ) := by rw [← hW4]; exact Blk.new _ _ _
        have HW4 := Lib.hid hW4
        clear hW4 b3
        unfold stpC stpZ bareK at HW4
        have hb4 := hb3.trans (a4.mono hb3.size)
        have HO4 := Lib.hid (ho3.out.below a4)
        clear a4 ho3
        clear hr
        go_upto_region 10 with fail
        rw [HW4.out]
        clear HW4
        have FN : Hid (parseP L = ([], k + 1, false)) := Lib.hid (by rw [HP.out, HI.out])
        clear B4
        go_wp2_with fail
        go_returns
        exact ParsedE.none_ FN.out (by go_num) rfl (b1.trans (hb4.mono b1.size))
      | some s =>
        have e1 : refRV L2 = .tuple #[.agg (stpC s), .bool true] := by unfold refRV; rw [hr]
        rw [e1] at CR
        unfold stpC at CR
        go_wp2_with fail
        refine CR.out.mono ?_
        clear CR e1
        rintro e w3 ⟨rfl, b3⟩
        have hb3 := hb2.trans (b3.mono (Nat.le_trans hb.size b2.size))
        have ho3 := Lib.hid (HO2.out.below b3)
        obtain ⟨W4, hW4⟩ : ∃ W4, w3.alloc (.cells (stpC s) 26) = W4 := ⟨_, rfl⟩
        have a4 : Below w3.heap.size w3 W4 := by rw [← hW4]; exact (Below.refl _ _).alloc (Nat.le_refl _) _
        have B4 : Blk W4 w3.heap.size 26 (stpC s) := by rw [← hW4]; exact Blk.new _ _ _
        have HW4 := Lib.hid hW4
        clear hW4 b3
        unfold stpC at HW4
        have hb4 := hb3.trans (a4.mono hb3.size)
        have HO4 := Lib.hid (ho3.out.below a4)
        clear a4 ho3
        go_upto_region 10 with fail
        rw [HW4.out]
        clear HW4
        by_cases hfull : out.length = 300
        · rw [parseL_full _ _ _ HWN.out hfull] at HI
          have FN : Hid (parseP L = ([], k + 1, false)) := Lib.hid (by rw [HP.out, HI.out])
          obtain ⟨A5, c5, hv5, -, -, -⟩ := HO4.out.reads
          rw [hfull] at hv5
          subst hv5
          clear hr hfull

          clear B4
          go_wp2_with fail
          go_returns
          exact ParsedE.none_ FN.out (by go_num) rfl (b1.trans (hb4.mono b1.size))
        rw [parseL_some _ _ _ s HWN.out hr hfull] at HI
        obtain ⟨A5, c5, hv5, -, -, -⟩ := HO4.out.reads
        obtain ⟨no, hno⟩ : ∃ no, out.length = no := ⟨_, rfl⟩
        rw [hno] at hv5 hfull hout
        subst hv5
        have hfd : ((no : Int) == 300) = false := by simp; omega
        have hfd2 : decide ((no : Int) ≥ 300) = false := by simp; omega
        have hno3 : no < 300 := by omega
        have HNO := Lib.hid hno
        clear hr hfull hno
        have d0 : W4.cell? ⟨w3.heap.size, 0, none⟩ = some (.int .i64 s.kind) := B4.cell 0
        have d1 : W4.cell? ⟨w3.heap.size, 1, none⟩ = some (.int .i64 s.n) := B4.cell 1
        have d2 : W4.cell? ⟨w3.heap.size, 2, none⟩ = some (.int .i64 s.ticks) := B4.cell 2
        have d3 : W4.cell? ⟨w3.heap.size, 3, none⟩ = some (.int .i64 s.tab) := B4.cell 3
        have d4 : W4.cell? ⟨w3.heap.size, 4, none⟩ = some (.int .i64 s.lev) := B4.cell 4
        have d5 : W4.cell? ⟨w3.heap.size, 5, none⟩ = some (.string s.key) := B4.cell 5
        have d6 : W4.cell? ⟨w3.heap.size, 6, none⟩ = some (.string s.en) := B4.cell 6
        have d7 : W4.cell? ⟨w3.heap.size, 7, none⟩ = some (.string s.val) := B4.cell 7
        have d8 : W4.cell? ⟨w3.heap.size, 8, none⟩ = some (.int .i64 s.ctx) := B4.cell 8
        clear B4
        go_wp2_with (at_builtin; go_must (refine append_stp W4 s _ rfl _ rfl _ _ rfl w1.heap.size _ out rfl HO4.out rfl (by rw [HNO.out]; omega) hb4.size ?_))
        intro v6 w6 o6 g6
        have hb6 : Below w1.heap.size w1 w6 := hb4.grown g6 hb4.size (fun q hq => (HO4.out.lt q hq).1)
        have HO6 := Lib.hid o6
        clear o6 g6
        go_wp2_with fail
        go_roundw
        case rel => exact ⟨k + 1, _, by go_num, hkm, by rw [List.length_append, HNO.out]; simp; omega, HO6, hb6, HI⟩
        case measure => simp [RowKit.intOf]; omega
    · have hke : k = m := by omega
      subst hke
      have FN : Hid (parseP L = (out, 0, true)) := Lib.hid (by
        rw [HP.out, HI.out, List.drop_of_length_le (by rw [HM.out]; exact Nat.le_refl _)]
        rfl)
      go_wp2_with fail
      go_returns
      exact ParsedE.some_ FN.out rfl (b1.trans (hb.mono b1.size)) (HO.out.base_le b1.size)

end Go.Proofs.YtimmfcbpdnlfjaaDoor
