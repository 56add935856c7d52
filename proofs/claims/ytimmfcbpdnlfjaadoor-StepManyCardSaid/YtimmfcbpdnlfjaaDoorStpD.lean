/- Contracts of step.Line and of the reference's Line. -/
import Derived.Test.YtimmfcbpdnlfjaaDoorStpC
import Derived.Laws.StructEq
namespace Go.Proofs.YtimmfcbpdnlfjaaDoor
open Go.RowKit Go.Sort
set_option linter.unusedVariables false

set_option maxRecDepth 100000 in
set_option maxHeartbeats 2000000 in
theorem step_neq (a b : Stp) (w : World) : (binOp .neq 26 (.agg (stpC a)) (.agg (stpC b))).run Tryd.prog w = .ok (.bool (!stpEq a b)) w := by
  unfold stpC stpEq
  simp [go_sem]
  by_cases h0 : a.kind = b.kind
  case neg => simp [h0]
  by_cases h1 : a.n = b.n
  case neg => simp [h0, h1]
  by_cases h2 : a.ticks = b.ticks
  case neg => simp [h0, h1, h2]
  by_cases h3 : a.tab = b.tab
  case neg => simp [h0, h1, h2, h3]
  by_cases h4 : a.lev = b.lev
  case neg => simp [h0, h1, h2, h3, h4]
  by_cases h5 : a.key.toList = b.key.toList
  case neg => simp [h0, h1, h2, h3, h4, h5]
  by_cases h6 : a.en.toList = b.en.toList
  case neg => simp [h0, h1, h2, h3, h4, h5, h6]
  by_cases h7 : a.val.toList = b.val.toList
  case neg => simp [h0, h1, h2, h3, h4, h5, h6, h7]
  by_cases h8 : a.ctx = b.ctx
  case neg => simp [h0, h1, h2, h3, h4, h5, h6, h7, h8]
  simp [h0, h1, h2, h3, h4, h5, h6, h7, h8]

/-- The line behind the first k parts. -/
def LnI (s : Stp) (wd : List UInt8) (ps : List Pt) (k : Nat) (x : ByteArray) : Prop := bl x = wd ++ (ps.take k).flatMap (fun p => 32 :: tellP s p) ∧ ∀ p ∈ ps.take k, tellP s p ≠ []
theorem LnI.zero (s : Stp) (wd : List UInt8) (ps : List Pt) : LnI s wd ps 0 ⟨wd.toArray⟩ := ⟨by simp [bl], by simp⟩
theorem LnI.next {s : Stp} {wd : List UInt8} {ps : List Pt} {k : Nat} {x : ByteArray} (h : LnI s wd ps k x) {p : Pt} (hk : k < ps.length) (hp : ps[k] = p) (hne : tellP s p ≠ []) :
    LnI s wd ps (k + 1) (x ++ (⟨#[32]⟩ ++ ⟨(tellP s p).toArray⟩)) := by
  have htk : ps.take (k + 1) = ps.take k ++ [p] := by rw [List.take_succ_eq_append_getElem hk, hp]
  refine ⟨?_, ?_⟩
  · rw [htk, List.flatMap_append, bl_append, bl_append, h.1]
    simp [bl]
  · rw [htk]
    intro q hq
    rcases List.mem_append.1 hq with hq | hq
    · exact h.2 q hq
    · rw [List.mem_singleton.1 hq]; exact hne
theorem LnI.done {s : Stp} {ps : List Pt} {x : ByteArray} (hf : (formP s.kind).2 = ps) (hw : (formP s.kind).1 ≠ []) (hb : bareB s ps = true) (h : LnI s (formP s.kind).1 ps ps.length x) : x = ⟨(lineP s).toArray⟩ := by
  have hx : bl x = lineP s := by
    obtain ⟨h1, h2⟩ := h
    rw [List.take_length] at h1 h2
    unfold lineP
    rw [hf, if_neg (by rintro (e | e); exact hw e; rw [hb] at e; exact absurd e (by decide))]
    unfold tellsP
    rw [if_neg]
    · exact h1
    · intro e
      obtain ⟨p, hp, hpe⟩ := List.any_eq_true.1 e
      exact h2 p hp (List.isEmpty_iff.1 hpe)
  rw [← hx]
  cases x with | mk d => cases d with | mk l => rfl
theorem lineP_none {s : Stp} {ps : List Pt} (hf : (formP s.kind).2 = ps) {k : Nat} (hk : k < ps.length) {p : Pt} (hp : ps[k] = p) (he : tellP s p = []) : lineP s = [] := by
  unfold lineP
  split
  · rfl
  · rw [hf]
    unfold tellsP
    rw [if_pos]
    rw [List.any_eq_true]
    exact ⟨p, by rw [← hp]; exact List.getElem_mem hk, by rw [he]; rfl⟩
theorem lineP_bare {s : Stp} {ps : List Pt} (hf : (formP s.kind).2 = ps) (hb : bareB s ps = false) : lineP s = [] := by
  unfold lineP
  rw [if_pos (.inr (by rw [hf]; exact hb))]
theorem lineP_word {s : Stp} (hb : (formP s.kind).1 = []) : lineP s = [] := by
  unfold lineP
  rw [if_pos (.inl hb)]
theorem word_ne {l : List UInt8} (h : l ≠ []) : ((⟨l.toArray⟩ : ByteArray).toList == (⟨#[]⟩ : ByteArray).toList) = false := by
  rw [toList_nil, Go.ByteArray.toList_eq, beq_eq_false_iff_ne]
  exact h
theorem word_eq {l : List UInt8} (h : l = []) : ((⟨l.toArray⟩ : ByteArray).toList == (⟨#[]⟩ : ByteArray).toList) = true := by
  subst h
  rw [beq_iff_eq]
theorem empty_of {x : ByteArray} {q : Bool} (h : (x.toList == (⟨#[]⟩ : ByteArray).toList) = q) : x.toList.isEmpty = q := by
  rw [toList_nil] at h
  rw [← h]
  cases x.toList <;> rfl
theorem formP_len (k : Int) : (formP k).2.length ≤ 6 := by
  unfold formP
  split
  · have hall : ∀ x ∈ forms, x.2.length ≤ 6 := by decide
    rw [List.getD_eq_getElem?_getD]
    cases h : forms[(k - 1).toNat]? with
    | none => simp
    | some x => exact hall x (List.mem_of_getElem? h)
  · simp
theorem formP_wlen (k : Int) : (formP k).1.length ≤ 8 := by
  unfold formP
  split
  · have hall : ∀ x ∈ forms, x.1.length ≤ 8 := by decide
    rw [List.getD_eq_getElem?_getD]
    cases h : forms[(k - 1).toNat]? with
    | none => simp
    | some x => exact hall x (List.mem_of_getElem? h)
  · simp
theorem formP_word (k : Int) (h : (formP k).1 ≠ []) : 1 ≤ k ∧ k ≤ 17 := by
  rcases kind_cases k with h1 | ⟨h1, h2⟩
  · exact h1
  · rw [h1] at h; exact absurd rfl h

set_option maxRecDepth 100000 in
set_option maxHeartbeats 4000000 in
theorem step_Line (s : Stp) (w : World) (hz : s.key.size ≤ 1000000000 ∧ s.en.size ≤ 1000000000 ∧ s.val.size ≤ 1000000000) (hT : Tabs w) :
    Calls Tryd.prog 9 #[.agg (stpC s)] w fun e w' => e = .returned (.string ⟨(lineP s).toArray⟩) ∧ Below w.heap.size w w' := by
  have CF := Lib.hid (fun W => step_form s.kind W)
  obtain ⟨ps, hps⟩ : ∃ ps, (formP s.kind).2 = ps := ⟨_, rfl⟩
  obtain ⟨wd, hwd⟩ : ∃ wd, (formP s.kind).1 = wd := ⟨_, rfl⟩
  have hpl : ps.length ≤ 6 := by rw [← hps]; exact formP_len _
  have hwl : wd.length ≤ 8 := by rw [← hwd]; exact formP_wlen _
  have hwp : wd ≠ [] → 1 ≤ s.kind ∧ s.kind ≤ 17 := by rw [← hwd]; exact formP_word _
  rw [hps, hwd] at CF
  obtain ⟨P, hP⟩ : ∃ P : ByteArray, ⟨(ps.map codeP).toArray⟩ = P := ⟨_, rfl⟩
  have hsz : P.size = ps.length := by rw [← hP]; exact parts_size ps codeP
  have hat : ∀ (k : Nat) (h : k < ps.length) (w : World), (Instr.index 9 (.string P) (.int .i64 (k : Int))).run Tryd.prog w = .ok (.int .u8 ((codeP ps[k]).toNat : Int)) w := by
    intro k h w
    rw [index_at P k (by omega) w]
    subst hP
    rw [parts_get ps codeP k h]
  obtain ⟨W, hW⟩ : ∃ W, w.alloc (.cells (stpC s) 26) = W := ⟨_, rfl⟩
  have bW : Below w.heap.size w W := by rw [← hW]; exact (Below.refl _ _).alloc (Nat.le_refl _) _
  have BS : Blk W w.heap.size 26 (stpC s) := by rw [← hW]; exact Blk.new _ _ _
  have HT := Lib.hid (hT.below bW)
  clear hT
  have hsW := BS.lt
  have s0 : W.cell? ⟨w.heap.size, 0, none⟩ = some (.int .i64 s.kind) := BS.cell 0
  have HPS := Lib.hid hps
  have HWD := Lib.hid hwd
  clear hps hwd
  rw [hP] at CF
  have HPP := Lib.hid hP
  clear hP
  unfold stpC at hW ⊢
  go_enter Tryd.func9, Tryd.ntmps9
  go_wp2_with fail
  clear hW
  refine (CF.out _).mono ?_
  clear CF
  rintro e w1 ⟨rfl, rfl⟩

  by_cases hw0 : wd = []
  · have hwq : wd.isEmpty = true := by rw [hw0]; rfl
    have F := Lib.hid (lineP_word (s := s) (by rw [HWD.out]; exact hw0))
    clear hw0 hwp
    go_upto_region 2 with fail
    refine wp_region_quiet_below (by kernel_rfl) (by kernel_rfl) ?_
    repeat (go_big_quiet_step (fail))
    refine wpQuiet_nil ?_
    intro _ hw'
    obtain ⟨⟨dq, osq⟩, hw''⟩ := hw'
    subst hw''
    have bq := below_regrown W dq osq
    have hB := bW.trans (bq.mono bW.size)
    clear bq
    generalize grow (redrawn W dq) osq = W2 at *
    go_wp2_with fail
    go_ret
    exact ⟨by rw [F.out]; rfl, hB⟩
  have hwq : wd.isEmpty = false := by simpa using hw0
  have hk := hwp hw0
  clear hwp
  have c0 : ∀ d os i, (grow (redrawn W d) os).cell? ⟨w.heap.size, i, none⟩ = (stpC s)[i]? := fun d os i => (BS.below (below_regrown W d os) hsW).cell i
  obtain ⟨b, hbs⟩ : ∃ b, bareS s ps = b := ⟨_, rfl⟩
  have kB := fun d os => Calls.regrown_of (step_bare s (grow (redrawn W d) os))
  simp only [HPS.out, hbs] at kB
  have hNE : ∀ w, (binOp .neq 26 (.agg (stpC s)) (.agg (stpC b))).run Tryd.prog w = .ok (.bool (!bareB s ps)) w := by
    intro w
    rw [step_neq, ← hbs, stpEq_bare]
  clear hbs
  unfold stpC at kB c0 hNE
  by_cases hb : bareB s ps = true
  case neg =>
    have hb' : bareB s ps = false := by simpa using hb
    have F := Lib.hid (lineP_bare (s := s) HPS.out hb')
    rw [hb'] at hNE
    clear hb hb'
    go_upto_region 2 with fail
    refine wp_region_quiet_below (by kernel_rfl) (by kernel_rfl) ?_
    repeat (go_big_quiet_step (exact kB _ _))
    refine wpQuiet_nil ?_
    intro _ hw'
    obtain ⟨⟨dq, osq⟩, hw''⟩ := hw'
    subst hw''
    have bq := below_regrown W dq osq
    have hB := bW.trans (bq.mono bW.size)
    clear bq kB c0
    generalize grow (redrawn W dq) osq = W2 at *
    go_wp2_with fail
    go_ret
    exact ⟨by rw [F.out]; rfl, hB⟩
  rw [hb] at hNE
  have HB := Lib.hid hb
  clear hb
  go_upto_region 2 with fail
  refine wp_region_quiet_below (by kernel_rfl) (by kernel_rfl) ?_
  repeat (go_big_quiet_step (exact kB _ _))
  refine wpQuiet_nil ?_
  intro _ hw'
  obtain ⟨⟨dq, osq⟩, hw''⟩ := hw'
  subst hw''
  have bq := below_regrown W dq osq
  replace bW := bW.trans (bq.mono bW.size)
  replace BS := BS.below bq hsW
  replace HT := Lib.hid (HT.out.below bq)
  clear bq kB c0 hNE s0 hsW
  generalize grow (redrawn W dq) osq = W2 at *
  have HZ := Lib.hid (LnI.zero s wd ps)
  go_wp2_with fail
  go_loopw [3, 5, 6, 23] (fun v3 _ _ v23 wr => ∃ (k : Nat) (x : ByteArray), v3 = .string x ∧ v23 = .int .i64 k ∧ k ≤ ps.length ∧ LnI s wd ps k x ∧ x.size ≤ 100 + 300 * k ∧ Below W2.heap.size W2 wr) (fun _ _ _ v23 _ => ps.length - (RowKit.intOf v23).toNat)
  case atStart => exact ⟨0, _, rfl, rfl, Nat.zero_le _, HZ.out, by show wd.toArray.size ≤ _; rw [List.size_toArray]; omega, Below.refl _ _⟩
  case round =>
    obtain ⟨k, x, rfl, rfl, hk, hL, hxs, hbr⟩ := hrel
    have HL := Lib.hid hL
    clear hL HZ
    by_cases hkl : k < ps.length
    · have hx := hat k hkl
      clear hat
      obtain ⟨p, hp⟩ : ∃ p, ps[k] = p := ⟨_, rfl⟩
      rw [hp] at hx
      have HPk := Lib.hid hp
      clear hp
      have BR := BS.below hbr BS.lt
      have HTR := Lib.hid (HT.out.below hbr)
      have hsr := BR.lt
      have c0 : ∀ d os i, (grow (redrawn wr d) os).cell? ⟨w.heap.size, i, none⟩ = (stpC s)[i]? := fun d os i => (BR.below (below_regrown wr d os) hsr).cell i
      have kT := fun d os => Calls.regrown_of (step_tell s p (grow (redrawn wr d) os) hz (HTR.out.below (below_regrown wr d os)))
      obtain ⟨y, hy⟩ : ∃ y : ByteArray, (⟨(tellP s p).toArray⟩ : ByteArray) = y := ⟨_, rfl⟩
      simp only [hy] at kT
      unfold stpC at kT c0
      by_cases hn : tellP s p = []
      · have hyq := word_eq hn
        rw [hy] at hyq
        have hye := empty_of hyq
        have F := Lib.hid (lineP_none (s := s) HPS.out hkl HPk.out hn)
        clear hn hy
        go_upto_region 7 with fail
        refine wp_region_quiet_below (by kernel_rfl) (by kernel_rfl) ?_
        repeat (go_big_quiet_step (exact kT _ _))
        refine wpQuiet_nil ?_
        intro _ hw'
        obtain ⟨⟨dq, osq⟩, hw''⟩ := hw'
        subst hw''
        replace hbr := hbr.trans ((below_regrown wr dq osq).mono hbr.size)
        clear c0 kT
        generalize grow (redrawn wr dq) osq = wq at *
        go_wp2_with fail
        go_ret
        exact ⟨by rw [F.out]; rfl, bW.trans (hbr.mono bW.size)⟩
      · have hyq := word_ne hn
        rw [hy] at hyq
        have hye := empty_of hyq
        have hys : y.size ≤ 258 := by rw [← hy]; exact tellP_len s p
        have hyn : ¬ y.toList = [] := by intro e; rw [e] at hye; exact absurd hye (by decide)
        have HN := Lib.hid (HL.out.next hkl HPk.out hn)
        rw [hy] at HN
        clear hn hy
        go_upto_region 7 with fail
        refine wp_region_quiet_below (by kernel_rfl) (by kernel_rfl) ?_
        repeat (go_big_quiet_step (exact kT _ _))
        refine wpQuiet_nil ?_
        intro _ hw'
        obtain ⟨⟨dq, osq⟩, hw''⟩ := hw'
        subst hw''
        replace hbr := hbr.trans ((below_regrown wr dq osq).mono hbr.size)
        clear c0 kT HTR BR hsr
        generalize grow (redrawn wr dq) osq = wq at *
        go_wp2_with fail
        go_roundw
        case rel => exact ⟨k + 1, _, rfl, by go_num, hkl, HN.out, by rw [ByteArray.size_append, ByteArray.size_append]; show x.size + (1 + y.size) ≤ _; omega, hbr⟩
        case measure => simp [RowKit.intOf]; omega
    · have hke : k = ps.length := by omega
      subst hke
      have F := Lib.hid (HL.out)
      clear hat
      go_wp2_with fail
      go_ret
      exact ⟨by rw [← LnI.done HPS.out (by rw [HWD.out]; exact hw0) HB.out (by rw [HWD.out]; exact HL.out)]; rfl, bW.trans (hbr.mono bW.size)⟩

set_option maxRecDepth 100000 in
set_option maxHeartbeats 4000000 in
theorem ref40_Line (s : Stp) (w : World) (hz : s.key.size ≤ 1000000000 ∧ s.en.size ≤ 1000000000 ∧ s.val.size ≤ 1000000000) (hT : Tabs w) :
    Calls Tryd.prog 10 #[.agg (stpC s)] w fun e w' => e = .returned (.string ⟨(lineP s).toArray⟩) ∧ Below w.heap.size w w' := by
  have CF := Lib.hid (fun W => ref40_word s.kind W)
  obtain ⟨ps, hps⟩ : ∃ ps, (formP s.kind).2 = ps := ⟨_, rfl⟩
  obtain ⟨wd, hwd⟩ : ∃ wd, (formP s.kind).1 = wd := ⟨_, rfl⟩
  have hpl : ps.length ≤ 6 := by rw [← hps]; exact formP_len _
  have hwl : wd.length ≤ 8 := by rw [← hwd]; exact formP_wlen _
  have hwp : wd ≠ [] → 1 ≤ s.kind ∧ s.kind ≤ 17 := by rw [← hwd]; exact formP_word _
  rw [hps, hwd] at CF
  obtain ⟨P, hP⟩ : ∃ P : ByteArray, ⟨(ps.map codeR).toArray⟩ = P := ⟨_, rfl⟩
  have hsz : P.size = ps.length := by rw [← hP]; exact parts_size ps codeR
  have hat : ∀ (k : Nat) (h : k < ps.length) (w : World), (Instr.index 9 (.string P) (.int .i64 (k : Int))).run Tryd.prog w = .ok (.int .u8 ((codeR ps[k]).toNat : Int)) w := by
    intro k h w
    rw [index_at P k (by omega) w]
    subst hP
    rw [parts_get ps codeR k h]
  obtain ⟨W, hW⟩ : ∃ W, w.alloc (.cells (stpC s) 26) = W := ⟨_, rfl⟩
  have bW : Below w.heap.size w W := by rw [← hW]; exact (Below.refl _ _).alloc (Nat.le_refl _) _
  have BS : Blk W w.heap.size 26 (stpC s) := by rw [← hW]; exact Blk.new _ _ _
  have HT := Lib.hid (hT.below bW)
  clear hT
  have hsW := BS.lt
  have s0 : W.cell? ⟨w.heap.size, 0, none⟩ = some (.int .i64 s.kind) := BS.cell 0
  have HPS := Lib.hid hps
  have HWD := Lib.hid hwd
  clear hps hwd
  rw [hP] at CF
  have HPP := Lib.hid hP
  clear hP
  unfold stpC at hW ⊢
  go_enter Tryd.func10, Tryd.ntmps10
  go_wp2_with fail
  clear hW
  refine (CF.out _).mono ?_
  clear CF
  rintro e w1 ⟨rfl, rfl⟩

  by_cases hw0 : wd = []
  · have hwq : wd.isEmpty = true := by rw [hw0]; rfl
    have F := Lib.hid (lineP_word (s := s) (by rw [HWD.out]; exact hw0))
    clear hw0 hwp
    go_wp2_with fail
    go_ret
    exact ⟨by rw [F.out]; rfl, bW⟩
  have hwq : wd.isEmpty = false := by simpa using hw0
  have hk := hwp hw0
  clear hwp
  have kB := Lib.hid (ref40_bare s s.kind hk W)
  rw [HPS.out, HPP.out] at kB
  unfold stpC at kB
  have c0 := BS.cell
  unfold stpC at c0
  by_cases hb : bareB s ps = true
  case neg =>
    have hb' : bareB s ps = false := by simpa using hb
    have F := Lib.hid (lineP_bare (s := s) HPS.out hb')
    rw [hb'] at kB
    go_wp2_with fail
    refine kB.out.mono ?_
    rintro e w2 ⟨rfl, b2⟩
    go_wp2_with fail
    go_ret
    exact ⟨by rw [F.out]; rfl, bW.trans (b2.mono bW.size)⟩
  rw [hb] at kB
  have HB := Lib.hid hb
  clear hb
  go_wp2_with fail
  refine kB.out.mono ?_
  clear kB
  rintro e W2 ⟨rfl, bq⟩
  replace bW := bW.trans (bq.mono bW.size)
  replace BS := BS.below bq hsW
  replace HT := Lib.hid (HT.out.below bq)
  clear bq c0 s0 hsW
  have HZ := Lib.hid (LnI.zero s wd ps)
  go_wp2_with fail
  go_loopw [3, 5, 6] (fun v3 v5 _ wr => ∃ (k : Nat) (x : ByteArray), v3 = .string x ∧ v5 = .int .i64 k ∧ k ≤ ps.length ∧ LnI s wd ps k x ∧ x.size ≤ 100 + 300 * k ∧ Below W2.heap.size W2 wr) (fun v3 v5 _ _ => ps.length - (RowKit.intOf v5).toNat)
  case atStart => exact ⟨0, _, rfl, rfl, Nat.zero_le _, HZ.out, by show wd.toArray.size ≤ _; rw [List.size_toArray]; omega, Below.refl _ _⟩
  case round =>
    obtain ⟨k, x, rfl, rfl, hk, hL, hxs, hbr⟩ := hrel
    have HL := Lib.hid hL
    clear hL HZ
    by_cases hkl : k < ps.length
    · have hx := hat k hkl
      clear hat
      obtain ⟨p, hp⟩ : ∃ p, ps[k] = p := ⟨_, rfl⟩
      rw [hp] at hx
      have HPk := Lib.hid hp
      clear hp
      have BR := BS.below hbr BS.lt
      have HTR := Lib.hid (HT.out.below hbr)
      have hsr := BR.lt
      have c0 : ∀ d os i, (grow (redrawn wr d) os).cell? ⟨w.heap.size, i, none⟩ = (stpC s)[i]? := fun d os i => (BR.below (below_regrown wr d os) hsr).cell i
      have kT := fun d os => Calls.regrown_of (ref40_part s p (grow (redrawn wr d) os) hz (HTR.out.below (below_regrown wr d os)))
      obtain ⟨y, hy⟩ : ∃ y : ByteArray, (⟨(tellP s p).toArray⟩ : ByteArray) = y := ⟨_, rfl⟩
      simp only [hy] at kT
      unfold stpC at kT c0
      by_cases hn : tellP s p = []
      · have hyq := word_eq hn
        rw [hy] at hyq
        have hye := empty_of hyq
        have F := Lib.hid (lineP_none (s := s) HPS.out hkl HPk.out hn)
        clear hn hy
        go_upto_region 7 with fail
        refine wp_region_quiet_below (by kernel_rfl) (by kernel_rfl) ?_
        repeat (go_big_quiet_step (exact kT _ _))
        refine wpQuiet_nil ?_
        intro _ hw'
        obtain ⟨⟨dq, osq⟩, hw''⟩ := hw'
        subst hw''
        replace hbr := hbr.trans ((below_regrown wr dq osq).mono hbr.size)
        clear c0 kT
        generalize grow (redrawn wr dq) osq = wq at *
        go_wp2_with fail
        go_ret
        exact ⟨by rw [F.out]; rfl, bW.trans (hbr.mono bW.size)⟩
      · have hyq := word_ne hn
        rw [hy] at hyq
        have hye := empty_of hyq
        have hys : y.size ≤ 258 := by rw [← hy]; exact tellP_len s p
        have hyn : ¬ y.toList = [] := by intro e; rw [e] at hye; exact absurd hye (by decide)
        have HN := Lib.hid (HL.out.next hkl HPk.out hn)
        rw [hy] at HN
        clear hn hy
        go_upto_region 7 with fail
        refine wp_region_quiet_below (by kernel_rfl) (by kernel_rfl) ?_
        repeat (go_big_quiet_step (exact kT _ _))
        refine wpQuiet_nil ?_
        intro _ hw'
        obtain ⟨⟨dq, osq⟩, hw''⟩ := hw'
        subst hw''
        replace hbr := hbr.trans ((below_regrown wr dq osq).mono hbr.size)
        clear c0 kT HTR BR hsr
        generalize grow (redrawn wr dq) osq = wq at *
        go_wp2_with fail
        go_roundw
        case rel => exact ⟨k + 1, _, rfl, by go_num, hkl, HN.out, by rw [ByteArray.size_append, ByteArray.size_append]; show x.size + (1 + y.size) ≤ _; omega, hbr⟩
        case measure => simp [RowKit.intOf]; omega
    · have hke : k = ps.length := by omega
      subst hke
      have F := Lib.hid (HL.out)
      clear hat
      go_wp2_with fail
      go_ret
      exact ⟨by rw [← LnI.done HPS.out (by rw [HWD.out]; exact hw0) HB.out (by rw [HWD.out]; exact HL.out)]; rfl, bW.trans (hbr.mono bW.size)⟩

end Go.Proofs.YtimmfcbpdnlfjaaDoor
