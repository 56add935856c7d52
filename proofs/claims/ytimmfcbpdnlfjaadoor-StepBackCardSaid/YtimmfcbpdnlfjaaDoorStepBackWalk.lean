/- The walk of the law StepBack. -/
import Derived.Test.YtimmfcbpdnlfjaaDoorStepTextsWalk
namespace Go.Proofs.YtimmfcbpdnlfjaaDoor
open Go.RowKit Go.Sort
set_option linter.unusedVariables false
set_option linter.unusedSimpArgs false

/-- What the law has seen of the first k steps. -/
def BackI (L : List Stp) : Prop := ∀ s ∈ L, lineP s ≠ [] ∧ s.key.size ≤ 100 ∧ s.en.size ≤ 100 ∧ s.val.size ≤ 100
theorem BackI.snoc {L : List Stp} {s : Stp} (h : BackI L) (hl : lineP s ≠ []) (h0 : ¬ 100 < s.key.size) (h1 : ¬ 100 < s.en.size) (h2 : ¬ 100 < s.val.size) : BackI (L ++ [s]) := fun u hu => by
  rcases List.mem_append.1 hu with hu | hu
  · exact h u hu
  · rw [List.mem_singleton.1 hu]
    exact ⟨hl, by omega, by omega, by omega⟩
theorem BackI.shorts {L : List Stp} (h : BackI L) : Shorts L := fun s hs => by
  obtain ⟨_, a, b, c⟩ := h s hs
  exact ⟨by omega, by omega, by omega⟩
/-- A line with one blank ahead of it and two behind it, read. -/
theorem read_blanks (s : Stp) (h : lineP s ≠ []) (t : ByteArray) (ht : bl t = 32 :: (lineP s ++ [32, 32])) : readV (bl t) = .tuple #[.agg (stpC s), .int .i64 0] := by
  have := read_back s h 1 [32, 32] (.inr rfl) rfl (by simp) (by omega)
  unfold readV
  rw [ht, show (32 : UInt8) :: (lineP s ++ [32, 32]) = List.replicate 1 32 ++ (lineP s ++ [32, 32]) from rfl, this]

set_option maxRecDepth 100000 in
set_option maxHeartbeats 4000000 in
theorem step_back_walk (w : World) (hT : Tabs w) (A : Option Addr) (n c : Nat) (L : List Stp) (hnc : n ≤ c) (hcm : c ≤ maxLen) (hA : A = none → c = 0) (hLn : L.length = n) (hW : ∀ s ∈ L, StpW s) (h : Reads w w.heap.size 9 A n (L.flatMap stpL)) :
    Calls Tryd.prog 5 #[.slice A n c] w fun e w' => e = .returned (.bool true) ∧ Below w.heap.size w w' := by
  have HN := Lib.hid hLn
  have H1 := Lib.hid h
  have HT := Lib.hid hT
  clear h hT hLn hW hA
  go_enter Tryd.func5, Tryd.ntmps5
  by_cases g1 : 100 < n
  · have d1 : decide ((n : Int) > 100) = true := by simp; omega
    go_wp2_with fail
    go_ret
    exact ⟨rfl, Below.refl _ _⟩
  have d1 : decide ((n : Int) > 100) = false := by simp; omega
  have hn : n ≤ 100 := by omega
  clear g1 hnc hcm
  have CA := Lib.hid (fun (w' : World) (b : Below w.heap.size w w') => law40_alive w' (HT.out.below b))
  go_wp2_with fail
  go_loopw [3, 4, 5, 6] (fun v3 _ _ _ wr => ∃ k : Nat, v3 = .int .i64 k ∧ k ≤ n ∧ Below w.heap.size w wr ∧ Hid (BackI (L.take k))) (fun v3 _ _ _ _ => n - (RowKit.intOf v3).toNat)
  case atStart => exact ⟨0, rfl, Nat.zero_le _, Below.refl _ _, Lib.hid (fun s hs => by simp at hs)⟩
  case round =>
    obtain ⟨k, rfl, hk, hb, HI⟩ := hrel
    have hbw := hb.size
    by_cases hkn : k < n
    · obtain ⟨b, off, rfl, hbl, hc⟩ := steps_at H1.out (by omega)
      have hkL : k < L.length := by rw [HN.out]; exact hkn
      have q1 := hc k hkL
      have HTK := Lib.hid (List.take_succ_eq_append_getElem hkL)
      obtain ⟨s, hs⟩ : ∃ s, L[k] = s := ⟨_, rfl⟩
      rw [hs] at q1 HTK
      clear hs hc
      have q2 := fun (w' : World) (hb' : Below w.heap.size w w') => row_cells q1 (w' := w') (fun p hp => hb'.cell (p := p) (by rw [hp]; exact hbl))
      have r1 := q2 wr hb
      have c0 : wr.cell? ⟨b, off + k * 9, none⟩ = some (.int .i64 s.kind) := r1 0 (by decide)
      have c1 : wr.cell? ⟨b, off + k * 9 + 1, none⟩ = some (.int .i64 s.n) := r1 1 (by decide)
      have c2 : wr.cell? ⟨b, off + k * 9 + 2, none⟩ = some (.int .i64 s.ticks) := r1 2 (by decide)
      have c3 : wr.cell? ⟨b, off + k * 9 + 3, none⟩ = some (.int .i64 s.tab) := r1 3 (by decide)
      have c4 : wr.cell? ⟨b, off + k * 9 + 4, none⟩ = some (.int .i64 s.lev) := r1 4 (by decide)
      have c5 : wr.cell? ⟨b, off + k * 9 + 5, none⟩ = some (.string s.key) := r1 5 (by decide)
      have c6 : wr.cell? ⟨b, off + k * 9 + 6, none⟩ = some (.string s.en) := r1 6 (by decide)
      have c7 : wr.cell? ⟨b, off + k * 9 + 7, none⟩ = some (.string s.val) := r1 7 (by decide)
      have c8 : wr.cell? ⟨b, off + k * 9 + 8, none⟩ = some (.int .i64 s.ctx) := r1 8 (by decide)
      have Q2 := Lib.hid q2
      clear q1 q2 r1
      have CL := Lib.hid (fun (hz : s.key.size ≤ 1000000000 ∧ s.en.size ≤ 1000000000 ∧ s.val.size ≤ 1000000000) => step_Line s wr hz (HT.out.below hb))
      have CB := Lib.hid (fun (w' : World) (b : Below w.heap.size w w') (hz : s.key.size ≤ 1000000000 ∧ s.en.size ≤ 1000000000 ∧ s.val.size ≤ 1000000000) => ref40_Line s w' hz (HT.out.below b))
      have CR := Lib.hid (fun (t : ByteArray) (w' : World) (b : Below w.heap.size w w') (hz : t.size ≤ 1000000000) => step_Read t w' hz (HT.out.below b))
      by_cases h0 : 100 < s.key.size
      · have e0 : decide ((s.key.size : Int) > 100) = true := by simp; omega
        clear HI CL CB CR
        go_wp2_with fail
        go_ret
        exact ⟨rfl, hb⟩
      have e0 : decide ((s.key.size : Int) > 100) = false := by simp; omega
      by_cases h1 : 100 < s.en.size
      · have e1 : decide ((s.en.size : Int) > 100) = true := by simp; omega
        clear HI CL CB CR
        go_wp2_with fail
        go_ret
        exact ⟨rfl, hb⟩
      have e1 : decide ((s.en.size : Int) > 100) = false := by simp; omega
      by_cases h2 : 100 < s.val.size
      · have e2 : decide ((s.val.size : Int) > 100) = true := by simp; omega
        clear HI CL CB CR
        go_wp2_with fail
        go_ret
        exact ⟨rfl, hb⟩
      have e2 : decide ((s.val.size : Int) > 100) = false := by simp; omega
      have HZ : Hid (s.key.size ≤ 1000000000 ∧ s.en.size ≤ 1000000000 ∧ s.val.size ≤ 1000000000) := Lib.hid ⟨by omega, by omega, by omega⟩
      have C1 := Lib.hid (CL.out HZ.out)
      have C2 := Lib.hid (fun w' b => CB.out w' b HZ.out)
      clear CL CB
      obtain ⟨ln, hln⟩ : ∃ ln, lineP s = ln := ⟨_, rfl⟩
      have hlen := lineP_len s
      have hRB : ∀ t : ByteArray, lineP s ≠ [] → bl t = 32 :: (lineP s ++ [32, 32]) → readV (bl t) = .tuple #[.agg (stpC s), .int .i64 0] := fun t h1 h2 => read_blanks s h1 t h2
      rw [hln] at C1 hlen hRB
      simp only [hln] at C2
      have HL := Lib.hid hln
      clear hln
      obtain ⟨y, hy⟩ : ∃ y : ByteArray, (⟨ln.toArray⟩ : ByteArray) = y := ⟨_, rfl⟩
      have hyb : bl y = ln := by rw [← hy]; rfl
      have hys : y.size = ln.length := by rw [← hyb]; exact (bl_length y).symm
      have hys7 : y.size ≤ 700 := by omega
      rw [hy] at C1
      simp only [hy] at C2
      unfold stpC at C1 C2
      by_cases hl0 : ln = []
      · have hye : y.toList.isEmpty = true := by rw [← hy, Go.ByteArray.toList_eq, hl0]; rfl
        have hye2 : y.toList = [] := by rw [← hy, Go.ByteArray.toList_eq, hl0]
        clear hl0 hy hys hyb hRB h0 h1 h2
        go_wp2_with fail
        refine C1.out.mono ?_
        clear C1
        rintro e w1 ⟨rfl, b1⟩
        have hb1 := hb.trans (b1.mono hbw)
        have r2 := Q2.out w1 hb1
        clear c0 c1 c2 c3 c4 c5 c6 c7 c8
        have c0 : w1.cell? ⟨b, off + k * 9, none⟩ = some (.int .i64 s.kind) := r2 0 (by decide)
        have c1 : w1.cell? ⟨b, off + k * 9 + 1, none⟩ = some (.int .i64 s.n) := r2 1 (by decide)
        have c2 : w1.cell? ⟨b, off + k * 9 + 2, none⟩ = some (.int .i64 s.ticks) := r2 2 (by decide)
        have c3 : w1.cell? ⟨b, off + k * 9 + 3, none⟩ = some (.int .i64 s.tab) := r2 3 (by decide)
        have c4 : w1.cell? ⟨b, off + k * 9 + 4, none⟩ = some (.int .i64 s.lev) := r2 4 (by decide)
        have c5 : w1.cell? ⟨b, off + k * 9 + 5, none⟩ = some (.string s.key) := r2 5 (by decide)
        have c6 : w1.cell? ⟨b, off + k * 9 + 6, none⟩ = some (.string s.en) := r2 6 (by decide)
        have c7 : w1.cell? ⟨b, off + k * 9 + 7, none⟩ = some (.string s.val) := r2 7 (by decide)
        have c8 : w1.cell? ⟨b, off + k * 9 + 8, none⟩ = some (.int .i64 s.ctx) := r2 8 (by decide)
        clear r2
        go_wp2_with fail
        refine (C2.out w1 hb1).mono ?_
        rintro e w2 ⟨rfl, b2⟩
        have hb2 := hb1.trans (b2.mono hb1.size)
        go_wp2_with fail
        refine (CA.out w2 hb2).mono ?_
        rintro e w3 ⟨rfl, b3⟩
        go_wp2_with fail
        go_ret
        exact ⟨rfl, hb2.trans (b3.mono hb2.size)⟩
      have hye : y.toList.isEmpty = false := by rw [← hy, Go.ByteArray.toList_eq]; simpa using hl0
      have hye2 : ¬ y.toList = [] := by rw [← hy, Go.ByteArray.toList_eq]; exact hl0
      have HS2 : Hid (BackI (L.take (k + 1))) := Lib.hid (by rw [HTK.out]; exact HI.out.snoc (by rw [HL.out]; exact hl0) h0 h1 h2)
      obtain ⟨t2, ht2⟩ : ∃ t2, (⟨#[32]⟩ : ByteArray) ++ y ++ (⟨#[32, 32]⟩ : ByteArray) = t2 := ⟨_, rfl⟩
      have ht2b : bl t2 = 32 :: (ln ++ [32, 32]) := by
        rw [← ht2, bl_append, bl_append, hyb]
        rfl
      have ht2s : t2.size ≤ 800 := by
        have := bl_length t2
        rw [ht2b] at this
        simp at this
        omega
      have C3 := Lib.hid (fun w' b => CR.out t2 w' b (by omega))
      have e3 := hRB t2 hl0 ht2b
      simp only [e3] at C3
      clear hl0 hy hys hyb hRB h0 h1 h2 e3 ht2b CR C2
      have hNE : ∀ w, (binOp .neq 26 (.agg (stpC s)) (.agg (stpC s))).run Tryd.prog w = .ok (.bool false) w := fun w => by
        rw [step_neq, stpEq_self]
        rfl
      unfold stpC at C3 hNE
      go_wp2_with fail
      refine C1.out.mono ?_
      clear C1
      rintro e w1 ⟨rfl, b1⟩
      have hb1 := hb.trans (b1.mono hbw)
      clear c0 c1 c2 c3 c4 c5 c6 c7 c8
      go_wp2_with fail
      refine (C3.out w1 hb1).mono ?_
      clear C3
      rintro e w2 ⟨rfl, b2⟩
      have hb2 := hb1.trans (b2.mono hb1.size)
      obtain ⟨W3, hW3⟩ : ∃ W3, w2.alloc (.cells (stpC s) 26) = W3 := ⟨_, rfl⟩
      have a3 : Below w2.heap.size w2 W3 := by rw [← hW3]; exact (Below.refl _ _).alloc (Nat.le_refl _) _
      have B3 : Blk W3 w2.heap.size 26 (stpC s) := by rw [← hW3]; exact Blk.new _ _ _
      have HW3 := Lib.hid hW3
      clear hW3
      unfold stpC at HW3
      have hb3 := hb2.trans (a3.mono hb2.size)
      have hsr := B3.lt
      have r3 := fun d os => Q2.out (grow (redrawn W3 d) os) (hb3.trans ((below_regrown W3 d os).mono hb3.size))
      have k3 := fun d os => (B3.below (below_regrown W3 d os) hsr).cell
      have c0 : ∀ d os, (grow (redrawn W3 d) os).cell? ⟨b, off + k * 9, none⟩ = some (.int .i64 s.kind) := fun d os => r3 d os 0 (by decide)
      have c1 : ∀ d os, (grow (redrawn W3 d) os).cell? ⟨b, off + k * 9 + 1, none⟩ = some (.int .i64 s.n) := fun d os => r3 d os 1 (by decide)
      have c2 : ∀ d os, (grow (redrawn W3 d) os).cell? ⟨b, off + k * 9 + 2, none⟩ = some (.int .i64 s.ticks) := fun d os => r3 d os 2 (by decide)
      have c3 : ∀ d os, (grow (redrawn W3 d) os).cell? ⟨b, off + k * 9 + 3, none⟩ = some (.int .i64 s.tab) := fun d os => r3 d os 3 (by decide)
      have c4 : ∀ d os, (grow (redrawn W3 d) os).cell? ⟨b, off + k * 9 + 4, none⟩ = some (.int .i64 s.lev) := fun d os => r3 d os 4 (by decide)
      have c5 : ∀ d os, (grow (redrawn W3 d) os).cell? ⟨b, off + k * 9 + 5, none⟩ = some (.string s.key) := fun d os => r3 d os 5 (by decide)
      have c6 : ∀ d os, (grow (redrawn W3 d) os).cell? ⟨b, off + k * 9 + 6, none⟩ = some (.string s.en) := fun d os => r3 d os 6 (by decide)
      have c7 : ∀ d os, (grow (redrawn W3 d) os).cell? ⟨b, off + k * 9 + 7, none⟩ = some (.string s.val) := fun d os => r3 d os 7 (by decide)
      have c8 : ∀ d os, (grow (redrawn W3 d) os).cell? ⟨b, off + k * 9 + 8, none⟩ = some (.int .i64 s.ctx) := fun d os => r3 d os 8 (by decide)
      have g0 : ∀ d os, (grow (redrawn W3 d) os).cell? ⟨w2.heap.size, 0, none⟩ = some (.int .i64 s.kind) := fun d os => k3 d os 0
      have g1 : ∀ d os, (grow (redrawn W3 d) os).cell? ⟨w2.heap.size, 1, none⟩ = some (.int .i64 s.n) := fun d os => k3 d os 1
      have g2 : ∀ d os, (grow (redrawn W3 d) os).cell? ⟨w2.heap.size, 2, none⟩ = some (.int .i64 s.ticks) := fun d os => k3 d os 2
      have g3 : ∀ d os, (grow (redrawn W3 d) os).cell? ⟨w2.heap.size, 3, none⟩ = some (.int .i64 s.tab) := fun d os => k3 d os 3
      have g4 : ∀ d os, (grow (redrawn W3 d) os).cell? ⟨w2.heap.size, 4, none⟩ = some (.int .i64 s.lev) := fun d os => k3 d os 4
      have g5 : ∀ d os, (grow (redrawn W3 d) os).cell? ⟨w2.heap.size, 5, none⟩ = some (.string s.key) := fun d os => k3 d os 5
      have g6 : ∀ d os, (grow (redrawn W3 d) os).cell? ⟨w2.heap.size, 6, none⟩ = some (.string s.en) := fun d os => k3 d os 6
      have g7 : ∀ d os, (grow (redrawn W3 d) os).cell? ⟨w2.heap.size, 7, none⟩ = some (.string s.val) := fun d os => k3 d os 7
      have g8 : ∀ d os, (grow (redrawn W3 d) os).cell? ⟨w2.heap.size, 8, none⟩ = some (.int .i64 s.ctx) := fun d os => k3 d os 8
      clear r3 k3 a3 B3
      go_upto_region 12 with fail
      rw [HW3.out]
      clear HW3
      refine wp_region_quiet_below (by kernel_rfl) (by kernel_rfl) ?_
      repeat (go_big_quiet_step (fail))
      refine wpQuiet_nil ?_
      intro _ hw'
      obtain ⟨⟨dq, osq⟩, hw''⟩ := hw'
      subst hw''
      have hb4 := hb3.trans ((below_regrown W3 dq osq).mono hb3.size)
      clear c0 g0 c1 g1 c2 g2 c3 g3 c4 g4 c5 g5 c6 g6 c7 g7 c8 g8 hNE
      generalize grow (redrawn W3 dq) osq = w4 at *
      go_wp2_with fail
      go_roundw
      case rel => exact ⟨k + 1, by go_num, hkn, hb4, HS2⟩
      case measure => simp [RowKit.intOf]; omega
    · have hke : k = n := by omega
      subst hke
      have HBK : Hid (BackI L) := Lib.hid (by
        have := HI.out
        rwa [List.take_of_length_le (by rw [HN.out]; exact Nat.le_refl _)] at this)
      have C1 := Lib.hid (step_Text A k c L wr ((H1.out.below hb).more hb.size) (by omega) HBK.out.shorts (HT.out.below hb))
      have C3 := Lib.hid (fun (t : ByteArray) (w' : World) (b : Below w.heap.size w w') (hz : t.size ≤ 1000000000) => step_Parse t w' hz (HT.out.below b))
      clear hkn hk HI
      cases ht : textO L with
      | none =>
        have e1 : textV L = .tuple #[.string ⟨#[]⟩, .int .i64 320] := by unfold textV; rw [ht]
        rw [e1] at C1
        clear e1 ht C3
        go_wp2_with fail
        refine C1.out.mono ?_
        clear C1
        rintro e w1 ⟨rfl, b1⟩
        have hb1 := hb.trans (b1.mono hb.size)
        go_wp2_with fail
        refine (CA.out w1 hb1).mono ?_
        rintro e w2 ⟨rfl, b2⟩
        go_wp2_with fail
        go_ret
        exact ⟨rfl, hb1.trans (b2.mono hb1.size)⟩
      | some t =>
        have e1 : textV L = .tuple #[.string ⟨t.toArray⟩, .int .i64 0] := by unfold textV; rw [ht]
        rw [e1] at C1
        have hpt := parse_text ht
        have htl : t.length ≤ 20000 := by
          unfold textO at ht
          split at ht
          · rename_i hc
            injection ht with ht
            rw [← ht]
            exact hc.2.2
          · cases ht
        obtain ⟨y, hy⟩ : ∃ y : ByteArray, (⟨t.toArray⟩ : ByteArray) = y := ⟨_, rfl⟩
        have hyb : bl y = t := by rw [← hy]; rfl
        have hys : y.size ≤ 20000 := by have := bl_length y; rw [hyb] at this; omega
        rw [hy] at C1
        have HPT : Hid (parseP (bl y) = (L, 0, true)) := Lib.hid (by rw [hyb]; exact hpt)
        clear e1 ht hpt htl hy hyb
        go_wp2_with fail
        refine C1.out.mono ?_
        clear C1
        rintro e w1 ⟨rfl, b1⟩
        have hb1 := hb.trans (b1.mono hb.size)
        go_wp2_with fail
        refine (C3.out y w1 hb1 (by omega)).mono ?_
        clear C3
        rintro e w2 ⟨v3, rfl, o3, b2⟩
        rw [HPT.out] at o3 ⊢
        obtain ⟨A3, c3, hv3, -, -, r3⟩ := o3.reads
        subst hv3
        have hb2 := hb1.trans (b2.mono hb1.size)
        dsimp only at *
        rw [HN.out] at r3 ⊢
        have C5 := Lib.hid (ref40_Same A3 A k c3 c L w2 r3 ((H1.out.below hb2).more hb2.size) (by omega))
        clear o3 r3
        unfold erP
        go_wp2_with fail
        refine C5.out.mono ?_
        rintro e w3 ⟨rfl, b3⟩
        have hb3 := hb2.trans (b3.mono hb2.size)
        go_wp2_with fail
        refine (CA.out w3 hb3).mono ?_
        rintro e w4 ⟨rfl, b4⟩
        go_wp2_with fail
        go_ret
        exact ⟨rfl, hb3.trans (b4.mono hb3.size)⟩
end Go.Proofs.YtimmfcbpdnlfjaaDoor
