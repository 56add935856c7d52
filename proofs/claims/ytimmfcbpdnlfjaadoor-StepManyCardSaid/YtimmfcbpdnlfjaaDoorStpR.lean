/- Plain: steps as a text, and back. No program is named here, and nothing is assumed. The cells of a row of steps. Nothing is assumed. -/
import Derived.Test.YtimmfcbpdnlfjaaDoorStpI
import Derived.Test.YtimmfcbpdnlfjaaDoorRnG
import Derived.Test.YtimmfcbpdnlfjaaDoorStpK
import Derived.Test.YtimmfcbpdnlfjaaDoorRows1
namespace Go.Proofs.YtimmfcbpdnlfjaaDoor
open Go.RowKit Go.Lib
set_option linter.unusedVariables false
set_option linter.unusedSimpArgs false

/-- A part taken over from another step. -/
def setP (u s : Stp) : Pt → Stp
  | .n => { u with n := s.n }
  | .t => { u with ticks := s.ticks }
  | .c => { u with ctx := s.ctx }
  | .a => { u with tab := s.tab }
  | .l => { u with lev := s.lev }
  | .k => { u with key := s.key }
  | .e => { u with en := s.en }
  | .v => { u with val := s.val }
theorem posN_tab {x : Int} (h : wordW tabN x ≠ []) : ((posN tabN (wordW tabN x) : Nat) : Int) = x := by
  by_cases hx : 1 ≤ x ∧ x ≤ (tabN.length : Nat)
  · have h1 : x = 1 ∨ x = 2 := by have : (tabN.length : Int) = 2 := rfl; omega
    rcases h1 with rfl | rfl <;> decide
  · unfold wordW at h
    rw [if_neg hx] at h
    exact absurd rfl h
theorem posN_lev {x : Int} (h : wordW levN x ≠ []) : ((posN levN (wordW levN x) : Nat) : Int) = x := by
  by_cases hx : 1 ≤ x ∧ x ≤ (levN.length : Nat)
  · have h1 : x = 1 ∨ x = 2 ∨ x = 3 := by have : (levN.length : Int) = 3 := rfl; omega
    rcases h1 with rfl | rfl | rfl <;> decide
  · unfold wordW at h
    rw [if_neg hx] at h
    exact absurd rfl h
theorem wordW_pos {l : List (List UInt8)} {x : Int} (h : wordW l x ≠ []) : x ≠ 0 := by
  rintro rfl
  exact h (wordW_zero l)
theorem text_tell {s : ByteArray} (h : textW s ≠ []) : unqE ⟨(textW s).toArray⟩ = 0 ∧ unqT ⟨(textW s).toArray⟩ = s ∧ s.size ≤ 64 := by
  unfold textW at h ⊢
  split at h
  · exact absurd rfl h
  · rename_i hs
    rw [if_neg hs]
    obtain ⟨h1, h2⟩ := unq_of (x := ⟨(quoteP s).toArray⟩) (t := s) rfl
    exact ⟨h1, h2, by omega⟩
theorem take_tell (u s : Stp) (p : Pt) (h : tellP s p ≠ []) : takeP u ⟨(tellP s p).toArray⟩ p = (setP u s p, true) := by
  cases p
  case n =>
    obtain ⟨h1, h2⟩ := num_ref (m := s.n) rfl (show numW s.n ≠ [] from h)
    show (({ u with n := rdNum (numW s.n) } : Stp), rdErr (numW s.n) == 0) = _
    rw [h1, h2]
    rfl
  case t =>
    obtain ⟨h1, h2⟩ := num_ref (m := s.ticks) rfl (show numW s.ticks ≠ [] from h)
    show (({ u with ticks := rdNum (numW s.ticks) } : Stp), rdErr (numW s.ticks) == 0) = _
    rw [h1, h2]
    rfl
  case c =>
    have e : tellP s .c = if s.ctx < -1 ∨ 1125899906842624 ≤ s.ctx then [] else numW (s.ctx + 1) := rfl
    rw [e] at h ⊢
    split at h
    · exact absurd rfl h
    · rename_i hc
      rw [if_neg hc]
      obtain ⟨h1, h2⟩ := num_ref (m := s.ctx + 1) rfl h
      show (({ u with ctx := rdNum (numW (s.ctx + 1)) - 1 } : Stp), rdErr (numW (s.ctx + 1)) == 0) = _
      rw [h1, h2, Int.add_sub_cancel]
      rfl
  case a =>
    have h1 := posN_tab (x := s.tab) h
    have h2 := wordW_pos (x := s.tab) h
    show (({ u with tab := posN tabN (wordW tabN s.tab) } : Stp), ((posN tabN (wordW tabN s.tab) : Nat) : Int) != 0) = _
    rw [h1]
    simp [setP, h2]
  case l =>
    have h1 := posN_lev (x := s.lev) h
    have h2 := wordW_pos (x := s.lev) h
    show (({ u with lev := posN levN (wordW levN s.lev) } : Stp), ((posN levN (wordW levN s.lev) : Nat) : Int) != 0) = _
    rw [h1]
    simp [setP, h2]
  case k =>
    obtain ⟨h1, h2, h3⟩ := text_tell (s := s.key) h
    show (({ u with key := unqT ⟨(textW s.key).toArray⟩ } : Stp), unqE ⟨(textW s.key).toArray⟩ == 0 && decide (((unqT ⟨(textW s.key).toArray⟩).size : Int) ≤ 64)) = _
    rw [h1, h2]
    simp [setP]
    omega
  case e =>
    obtain ⟨h1, h2, h3⟩ := text_tell (s := s.en) h
    show (({ u with en := unqT ⟨(textW s.en).toArray⟩ } : Stp), unqE ⟨(textW s.en).toArray⟩ == 0 && decide (((unqT ⟨(textW s.en).toArray⟩).size : Int) ≤ 64)) = _
    rw [h1, h2]
    simp [setP]
    omega
  case v =>
    obtain ⟨h1, h2, h3⟩ := text_tell (s := s.val) h
    show (({ u with val := unqT ⟨(textW s.val).toArray⟩ } : Stp), unqE ⟨(textW s.val).toArray⟩ == 0 && decide (((unqT ⟨(textW s.val).toArray⟩).size : Int) ≤ 64)) = _
    rw [h1, h2]
    simp [setP]
    omega
theorem setP_bare (s : Stp) (Q : List Pt) (p : Pt) : setP (bareS s Q) s p = bareS s (Q ++ [p]) := by
  cases p
  all_goals
    unfold setP bareS
    simp
theorem takes_tell (s : Stp) (ps : List Pt) (h : [] ∉ ps.map (tellP s)) : ∀ k, k ≤ ps.length → takesP (bareK s.kind) (ps.take k) ((ps.map (tellP s)).take k) = some (bareS s (ps.take k))
  | 0, _ => rfl
  | k + 1, hk => by
    have ih := takes_tell s ps h k (by omega)
    have hk1 : k < ps.length := by omega
    have hk2 : k < (ps.map (tellP s)).length := by rw [List.length_map]; exact hk1
    have hne : tellP s ps[k] ≠ [] := fun e => h (List.mem_map.2 ⟨ps[k], List.getElem_mem hk1, e⟩)
    rw [List.take_succ_eq_append_getElem hk1, List.take_succ_eq_append_getElem hk2, takesP_snoc _ _ _ _ _ (by rw [List.length_take, List.length_take, List.length_map]), ih, Option.bind_some]
    rw [List.getElem_map, take_tell _ s _ hne, if_pos rfl, setP_bare]
theorem stpEq_iff {a b : Stp} (h : stpEq a b = true) : a = b := by
  unfold stpEq at h
  simp only [Bool.and_eq_true, beq_iff_eq] at h
  obtain ⟨h0, h1, h2, h3, h4, h5, h6, h7, h8⟩ := h
  have hx : ∀ x y : ByteArray, x.toList = y.toList → x = y := fun x y e => by
    rw [Go.ByteArray.toList_eq, Go.ByteArray.toList_eq] at e
    cases x with | mk dx => cases y with | mk dy =>
    congr 1
    exact Array.toList_inj.1 e
  cases a; cases b
  simp only at h0 h1 h2 h3 h4 h5 h6 h7 h8
  rw [h0, h1, h2, h3, h4, hx _ _ h5, hx _ _ h6, hx _ _ h7, h8]
theorem stpEq_self (a : Stp) : stpEq a a = true := by
  unfold stpEq
  simp
theorem lineP_len (s : Stp) : (lineP s).length ≤ 700 := by
  by_cases hne : lineP s = []
  · rw [hne]; simp
  · obtain ⟨hk, hb, h0, hl, _⟩ := line_words s hne
    rw [hl, List.length_append]
    have h1 := formP_wlen s.kind
    have hf : ∀ k : Int, 1 ≤ k → k ≤ 17 → (formP k).2 = [.n, .a, .l, .k, .v, .c] ∨ (formP k).2 = [.n, .a, .l, .k, .v, .t] ∨ (formP k).2 = [.n, .a, .l, .k, .c] ∨ (formP k).2 = [.n, .a, .l, .k, .e] ∨ (formP k).2 = [.n, .a, .l, .k] ∨ (formP k).2 = [.n] ∨ (formP k).2 = [.n, .t] := by
      intro k h1 h2
      have hc : k = 1 ∨ k = 2 ∨ k = 3 ∨ k = 4 ∨ k = 5 ∨ k = 6 ∨ k = 7 ∨ k = 8 ∨ k = 9 ∨ k = 10 ∨ k = 11 ∨ k = 12 ∨ k = 13 ∨ k = 14 ∨ k = 15 ∨ k = 16 ∨ k = 17 := by omega
      rcases hc with rfl | rfl | rfl | rfl | rfl | rfl | rfl | rfl | rfl | rfl | rfl | rfl | rfl | rfl | rfl | rfl | rfl
      all_goals decide
    have n1 := numW_len s.n
    have n2 := numW_len s.ticks
    have n3 : (tellP s .c).length ≤ 16 := by
      show (if s.ctx < -1 ∨ 1125899906842624 ≤ s.ctx then [] else numW (s.ctx + 1)).length ≤ 16
      split
      · simp
      · exact numW_len _
    have n4 := (wordW_len s.tab).1
    have n5 := (wordW_len s.lev).2
    have n6 := textW_len s.key
    have n7 := textW_len s.en
    have n8 := textW_len s.val
    rcases hf s.kind hk.1 hk.2 with e | e | e | e | e | e | e
    all_goals
      rw [e]
      simp only [joinF, List.map_cons, List.map_nil, List.flatMap_cons, List.flatMap_nil, List.length_append, List.length_cons, List.length_nil]
      simp only [tellP] at n3 ⊢
      omega
/-- A line with blanks around it is read as the step. -/
theorem read_back (s : Stp) (hne : lineP s ≠ []) (m : Nat) (tl : List UInt8) (h1 : tl = [] ∨ tl.head? = some 32) (h2 : wordsP tl = []) (h3 : tl.length ≤ 50) (hm : m ≤ 50) : readP (List.replicate m 32 ++ (lineP s ++ tl)) = some s := by
  obtain ⟨hk, hb, h0, hl, hw⟩ := line_words s hne
  have hlen := lineP_len s
  have e : wordsP (List.replicate m 32 ++ (lineP s ++ tl)) = (formP s.kind).1 :: (formP s.kind).2.map (tellP s) := by
    rw [← hw tl h1 h2]
    clear hm
    induction m with
    | zero => rfl
    | succ m ih => rw [List.replicate_succ, List.cons_append, wordsP_blank, ih]
  have ek := (kind_form s.kind hk _).1 rfl
  unfold readP
  rw [e]
  dsimp only
  rw [if_neg (by rw [List.length_append, List.length_append, List.length_replicate]; omega), ek, if_neg (by omega), if_neg (by rw [List.length_map]; exact fun h => h rfl)]
  have ht := takes_tell s (formP s.kind).2 h0 (formP s.kind).2.length (Nat.le_refl _)
  rw [List.take_length, List.take_of_length_le (by rw [List.length_map]; exact Nat.le_refl _)] at ht
  rw [ht]
  congr 1
  exact (stpEq_iff (by rw [stpEq_bare]; exact hb)).symm
/-- All lines, each with its end. -/
def linesT (L : List Stp) : List UInt8 := L.flatMap fun s => lineP s ++ [10]
theorem linesT_snoc (L : List Stp) (s : Stp) : linesT (L ++ [s]) = linesT L ++ (lineP s ++ [10]) := by simp [linesT]
theorem linesT_take (L : List Stp) (k : Nat) : (linesT (L.take k)).length ≤ (linesT L).length := by
  conv => rhs; rw [← List.take_append_drop k L]
  unfold linesT
  rw [List.flatMap_append, List.length_append]
  omega
/-- The text of steps; none: they have none. -/
def textO (L : List Stp) : Option (List UInt8) := if L.length ≤ 300 ∧ (∀ s ∈ L, lineP s ≠ []) ∧ (linesT L).length ≤ 20000 then some (linesT L) else none
theorem textO_many {L : List Stp} (h : 300 < L.length) : textO L = none := by
  unfold textO
  rw [if_neg (by omega)]
theorem textO_empty {L : List Stp} {k : Nat} (hk : k < L.length) (h : lineP L[k] = []) : textO L = none := by
  unfold textO
  rw [if_neg]
  rintro ⟨_, h1, _⟩
  exact h1 _ (List.getElem_mem hk) h
theorem textO_long {L : List Stp} {k : Nat} (h : 20000 < (linesT (L.take k)).length) : textO L = none := by
  unfold textO
  rw [if_neg]
  rintro ⟨_, _, h1⟩
  have := linesT_take L k
  omega
theorem textO_ok {L : List Stp} (h1 : L.length ≤ 300) (h2 : ∀ s ∈ L, lineP s ≠ []) (h3 : (linesT L).length ≤ 20000) : textO L = some (linesT L) := by
  unfold textO
  rw [if_pos ⟨h1, h2, h3⟩]
/-- The steps of lines, from the line i (counted from 0) on, behind what was read. -/
def parseL : List (List UInt8) → Nat → List Stp → List Stp × Nat × Bool
  | [], _, out => (out, 0, true)
  | l :: ls, i, out => if wordsP l = [] then parseL ls (i + 1) out else match readP l with
    | none => ([], i + 1, false)
    | some s => if out.length = 300 then ([], i + 1, false) else parseL ls (i + 1) (out ++ [s])
def parseP (t : List UInt8) : List Stp × Nat × Bool := if 20000 < t.length then ([], 0, false) else parseL (linesP t) 0 []
theorem parseL_blank {l : List UInt8} (ls : List (List UInt8)) (i : Nat) (out : List Stp) (h : wordsP l = []) : parseL (l :: ls) i out = parseL ls (i + 1) out := by
  rw [parseL, if_pos h]
theorem parseL_none {l : List UInt8} (ls : List (List UInt8)) (i : Nat) (out : List Stp) (h : wordsP l ≠ []) (hr : readP l = none) : parseL (l :: ls) i out = ([], i + 1, false) := by
  rw [parseL, if_neg h, hr]
theorem parseL_full {l : List UInt8} (ls : List (List UInt8)) (i : Nat) (out : List Stp) (h : wordsP l ≠ []) (hf : out.length = 300) : parseL (l :: ls) i out = ([], i + 1, false) := by
  rw [parseL, if_neg h]
  cases readP l with
  | none => rfl
  | some s => simp only [hf, if_true]
theorem parseL_some {l : List UInt8} (ls : List (List UInt8)) (i : Nat) (out : List Stp) (s : Stp) (h : wordsP l ≠ []) (hr : readP l = some s) (hf : out.length ≠ 300) : parseL (l :: ls) i out = parseL ls (i + 1) (out ++ [s]) := by
  rw [parseL, if_neg h, hr]
  simp only [hf, if_false]
theorem readP_words {l : List UInt8} {s : Stp} (h : readP l = some s) : wordsP l ≠ [] := by
  intro e
  unfold readP at h
  rw [e] at h
  cases h
/-- No line holds the sign that ends lines. -/
theorem quote_no10 (s : ByteArray) : (10 : UInt8) ∉ quoteP s := by
  have piece : ∀ k (_ : k < s.size), (10 : UInt8) ∉ q1 s k := by
    intro k hk
    obtain ⟨r, d, hD, hd, hc⟩ := decode_some s k hk
    obtain ⟨h1, h2⟩ := rune_tail s k hk hD
    have hg := get!_eq s k hk
    have hbd := bl_drop s k hk
    unfold q1
    rw [hD, hg]
    dsimp only
    split
    · unfold escB
      have hfig : ∀ n : Fin 16, figC n.val ≠ 10 := by decide +kernel
      have f1 := hfig ⟨s[k].toNat / 16, by have := s[k].toNat_lt; omega⟩
      have f2 := hfig ⟨s[k].toNat % 16, by omega⟩
      simp only [List.mem_cons, List.not_mem_nil, or_false]
      rintro (h | h | h | h)
      · exact absurd h (by decide)
      · exact absurd h (by decide)
      · exact f1 h.symm
      · exact f2 h.symm
    · rename_i he
      have h32 : ¬ s[k].toNat < 32 := by
        intro h
        apply he
        unfold toEsc
        simp [h]
      split
      · simp only [List.mem_cons, List.not_mem_nil, or_false]
        rintro (h | h)
        · exact absurd h (by decide)
        · rw [← h] at h32; exact h32 (by decide)
      · intro hc
        obtain ⟨j, hj, hje⟩ := List.mem_iff_getElem.1 hc
        rw [List.length_take, List.length_drop, bl_length] at hj
        rw [List.getElem_take, List.getElem_drop, bl_get s _ (by omega)] at hje
        by_cases h0 : j = 0
        · subst h0
          have e' : s[k] = 10 := hje
          rw [e'] at h32
          exact h32 (by decide)
        · have := h2 (k + j) (by omega) (by omega) (by omega)
          rw [hje] at this
          exact absurd this (by decide)
  have all : ∀ (f i : Nat), s.size - i ≤ f → (10 : UInt8) ∉ bq s i := by
    intro f
    induction f with
    | zero => intro i h; rw [bq_end s i (by omega)]; simp
    | succ f ih =>
      intro i h
      by_cases hi : i < s.size
      · obtain ⟨r, d, hD, hd, _⟩ := decode_some s i hi
        rw [bq_step s i hi hD hd, List.mem_append]
        rintro (e | e)
        · exact piece i hi e
        · exact ih (i + d) (by omega) e
      · rw [bq_end s i (by omega)]; simp
  unfold quoteP
  simp only [List.mem_cons, List.mem_append, List.not_mem_nil, or_false]
  rintro (h | h | h)
  · exact absurd h (by decide)
  · exact all s.size 0 (by omega) h
  · exact absurd h (by decide)
theorem num_no10 (x : Int) : (10 : UInt8) ∉ numW x := by
  rcases numW_wd x with e | ⟨_, n, _, _, h3⟩
  · rw [e]; simp
  · rw [h3]
    intro h
    have hall := List.all_eq_true.1 (dec_big n).2.1 10 h
    revert hall
    decide
theorem word_no10 {l : List (List UInt8)} (hl : ∀ y ∈ l, (10 : UInt8) ∉ y) (x : Int) : (10 : UInt8) ∉ wordW l x := by
  unfold wordW
  split
  · rename_i h
    have hk : (x - 1).toNat < l.length := by omega
    rw [List.getD_eq_getElem?_getD, List.getElem?_eq_getElem hk, Option.getD_some]
    exact hl _ (List.getElem_mem hk)
  · simp
theorem text_no10 (s : ByteArray) : (10 : UInt8) ∉ textW s := by
  unfold textW
  split
  · simp
  · exact quote_no10 s
theorem tell_no10 (s : Stp) (p : Pt) : (10 : UInt8) ∉ tellP s p := by
  cases p
  · exact num_no10 _
  · exact num_no10 _
  · show (10 : UInt8) ∉ (if s.ctx < -1 ∨ 1125899906842624 ≤ s.ctx then [] else numW (s.ctx + 1))
    split
    · simp
    · exact num_no10 _
  · exact word_no10 (by decide) _
  · exact word_no10 (by decide) _
  · exact text_no10 _
  · exact text_no10 _
  · exact text_no10 _
theorem line_no10 (s : Stp) : (10 : UInt8) ∉ lineP s := by
  by_cases hne : lineP s = []
  · rw [hne]; simp
  · obtain ⟨hk, _, _, hl, _⟩ := line_words s hne
    rw [hl, List.mem_append]
    rintro (h | h)
    · have hf : ∀ k : Int, 1 ≤ k → k ≤ 17 → (10 : UInt8) ∉ (formP k).1 := by
        intro k h1 h2
        have hc : k = 1 ∨ k = 2 ∨ k = 3 ∨ k = 4 ∨ k = 5 ∨ k = 6 ∨ k = 7 ∨ k = 8 ∨ k = 9 ∨ k = 10 ∨ k = 11 ∨ k = 12 ∨ k = 13 ∨ k = 14 ∨ k = 15 ∨ k = 16 ∨ k = 17 := by omega
        rcases hc with rfl | rfl | rfl | rfl | rfl | rfl | rfl | rfl | rfl | rfl | rfl | rfl | rfl | rfl | rfl | rfl | rfl
        all_goals decide
      exact hf _ hk.1 hk.2 h
    · unfold joinF at h
      obtain ⟨x, hx, hy⟩ := List.mem_flatMap.1 h
      obtain ⟨p, _, rfl⟩ := List.mem_map.1 hx
      rcases List.mem_cons.1 hy with h | h
      · exact absurd h (by decide)
      · exact tell_no10 s p h
theorem lin_line : ∀ (l a r : List UInt8), (10 : UInt8) ∉ l → lin a (l ++ 10 :: r) = (a ++ l) :: lin [] r
  | [], a, r, _ => by rw [List.nil_append, lin_cons, if_pos rfl, List.append_nil]
  | c :: l, a, r, h => by
    have hc : c ≠ 10 := fun e => h (by rw [e]; simp)
    rw [List.cons_append, lin_cons, if_neg hc, lin_line l (a ++ [c]) r (fun e => h (by simp [e])), List.append_assoc]
    rfl
theorem linesP_line (l r : List UInt8) (h : (10 : UInt8) ∉ l) : linesP (l ++ 10 :: r) = l :: linesP r := by
  unfold linesP
  rw [lin_line l [] r h, List.nil_append]
theorem linesP_T : ∀ L : List Stp, linesP (linesT L) = L.map lineP
  | [] => rfl
  | s :: L => by
    have e : linesT (s :: L) = lineP s ++ 10 :: linesT L := by simp [linesT]
    rw [e, linesP_line _ _ (line_no10 s), linesP_T L]
    rfl
theorem read_line_back (s : Stp) (h : lineP s ≠ []) : readP (lineP s) = some s := by
  have := read_back s h 0 [] (.inl rfl) rfl (by simp) (by omega)
  simpa using this
theorem parseL_map : ∀ (L : List Stp) (i : Nat) (out : List Stp), (∀ s ∈ L, lineP s ≠ []) → out.length + L.length ≤ 300 → parseL (L.map lineP) i out = (out ++ L, 0, true)
  | [], i, out, _, _ => by simp [parseL]
  | s :: L, i, out, h, hl => by
    have hr := read_line_back s (h s (by simp))
    rw [List.length_cons] at hl
    rw [List.map_cons, parseL_some _ _ _ s (readP_words hr) hr (by omega), parseL_map L (i + 1) (out ++ [s]) (fun t ht => h t (by simp [ht])) (by rw [List.length_append]; simp; omega)]
    simp
/-- A text of steps is read as the steps. -/
theorem parse_text {L : List Stp} {t : List UInt8} (h : textO L = some t) : parseP t = (L, 0, true) := by
  unfold textO at h
  split at h
  · rename_i hc
    obtain ⟨h1, h2, h3⟩ := hc
    injection h with h
    subst h
    unfold parseP
    rw [if_neg (by omega), linesP_T, parseL_map L 0 [] h2 (by simpa using h1)]
    rfl
  · cases h
theorem parseL_len : ∀ (ls : List (List UInt8)) (i : Nat) (out : List Stp), out.length ≤ 300 → (parseL ls i out).1.length ≤ 300
  | [], i, out, h => h
  | l :: ls, i, out, h => by
    rw [parseL]
    split
    · exact parseL_len ls _ _ h
    · split
      · simp
      · split
        · simp
        · exact parseL_len ls _ _ (by rw [List.length_append]; simp; omega)
end Go.Proofs.YtimmfcbpdnlfjaaDoor

namespace Go.Proofs.YtimmfcbpdnlfjaaDoor
open Go.RowKit Go.Sort

/-- The texts of a step are not too long. -/
def StpW (s : Stp) : Prop := s.key.size ≤ maxLen ∧ s.en.size ≤ maxLen ∧ s.val.size ≤ maxLen
def stpL (s : Stp) : List Value := (stpC s).toList
theorem stpL_length (s : Stp) : (stpL s).length = 9 := rfl
/-- The cells of a step that lies in a row. -/
theorem flat9_get : ∀ (L : List Stp) (k i : Nat) (hk : k < L.length), i < 9 → (L.flatMap stpL)[k * 9 + i]? = (stpC L[k])[i]?
  | s :: L, 0, i, _, hi => by
    rw [List.flatMap_cons, Nat.zero_mul, Nat.zero_add, List.getElem?_append_left (by rw [stpL_length]; exact hi)]
    show (stpC s).toList[i]? = _
    rw [Array.getElem?_toList]
    rfl
  | s :: L, k + 1, i, hk, hi => by
    rw [List.flatMap_cons, List.getElem?_append_right (by rw [stpL_length]; omega), stpL_length, show (k + 1) * 9 + i - 9 = k * 9 + i by omega]
    rw [flat9_get L k i (by simpa using hk) hi]
    rfl
theorem flat9_length (L : List Stp) : (L.flatMap stpL).length = L.length * 9 := by
  induction L with
  | nil => rfl
  | cons s L ih => rw [List.flatMap_cons, List.length_append, stpL_length, ih, List.length_cons]; omega
theorem steps_n {w : World} {B n : Nat} {A : Option Addr} {L : List Stp} (h : Reads w B 9 A n (L.flatMap stpL)) : L.length = n := by
  have := h.1
  rw [flat9_length] at this
  omega
/-- The place of a row of steps, and the cells of each. -/
theorem steps_at {w : World} {B n : Nat} {A : Option Addr} {L : List Stp} (h : Reads w B 9 A n (L.flatMap stpL)) (hn : 0 < n) : ∃ b off, A = some ⟨b, off, none⟩ ∧ b < B ∧ ∀ (k : Nat) (hk : k < L.length) (i : Nat), i < 9 → w.cell? ⟨b, off + k * 9 + i, none⟩ = (stpC L[k])[i]? := by
  obtain ⟨ad, e, hb, hc⟩ := h.2 hn
  have hl : 0 < (L.flatMap stpL).length := by have := h.1; omega
  have h0 := hc 0 _ (List.getElem?_eq_getElem hl)
  obtain ⟨b, off, spot⟩ := ad
  have hs : spot = none := by simpa [Addr.add] using World.cell?_spot h0
  subst hs
  refine ⟨b, off, e, hb, fun k hk i hi => ?_⟩
  have hi9 : i < (stpC L[k]).size := hi
  have := hc (k * 9 + i) ((stpC L[k])[i]) (by rw [flat9_get L k i hk hi, Array.getElem?_eq_getElem hi9])
  rw [Array.getElem?_eq_getElem hi9, ← this]
  obtain ⟨q, hq⟩ : ∃ q, k * 9 + i = q := ⟨_, rfl⟩
  rw [Nat.add_assoc, hq]
  by_cases h0 : q = 0
  · subst h0
    simp [Addr.add]
  · simp [Addr.add, h0]
end Go.Proofs.YtimmfcbpdnlfjaaDoor
