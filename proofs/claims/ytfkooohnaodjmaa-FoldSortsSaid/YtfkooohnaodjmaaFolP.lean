/- Plain: texts folded, their chunks, and how they stand. No program is named here, and nothing is assumed. -/
import Derived.Test.YtfkooohnaodjmaaEnc
import Derived.Test.YtfkooohnaodjmaaCmp
namespace Go.Proofs.Ytfkooohnaodjmaa
open Go.RowKit Go.Sort Go.Lib

/-- A rune's small form. -/
def small (r : Nat) : Nat := if 65 ≤ r ∧ r ≤ 90 then r + 32 else r
theorem small_sc {r : Nat} (h : Sc r) : Sc (small r) := by
  unfold small
  split
  · exact .inl (by omega)
  · exact h
theorem small_small (r : Nat) : small (small r) = small r := by
  unfold small
  split
  · rw [if_neg (by omega)]
  · rfl
/-- A text folded. -/
def foldB (s : ByteArray) : ByteArray := strE ((rest s 0).map small)
theorem foldB_rest (s : ByteArray) : rest (foldB s) 0 = (rest s 0).map small := by
  refine rest_enc _ _ (fun r hr => ?_) rfl
  obtain ⟨x, hx, rfl⟩ := List.mem_map.1 hr
  exact small_sc (rest_sc s 0 x hx)
theorem foldB_foldB (s : ByteArray) : foldB (foldB s) = foldB s := by
  unfold foldB
  rw [show rest (strE ((rest s 0).map small)) 0 = (rest s 0).map small from foldB_rest s, List.map_map]
  congr 1
  exact List.map_congr_left fun r _ => small_small r

/-- Is a rune a digit? -/
def dig (r : Nat) : Bool := decide (48 ≤ r) && decide (r ≤ 57)
/-- A chunk's runes, and whether they are digits. -/
abbrev Chk := List Nat × Bool
def lastB (out : List Chk) (b : Bool) : Bool := match out.getLast? with | none => false | some c => c.2 == b
/-- A rune more, behind some chunks. -/
def addC (out : List Chk) (r : Nat) : List Chk := match out.getLast? with
  | none => out ++ [([r], dig r)]
  | some c => if c.2 = dig r then out.dropLast ++ [(c.1 ++ [r], c.2)] else out ++ [([r], dig r)]
def chP (R : List Nat) : List Chk := R.foldl addC []
theorem addC_new {out : List Chk} {r : Nat} (h : lastB out (dig r) = false) : addC out r = out ++ [([r], dig r)] := by
  unfold addC
  unfold lastB at h
  cases hg : out.getLast? with
  | none => rfl
  | some c =>
    rw [hg] at h
    have h' : (c.2 == dig r) = false := h
    have : ¬ c.2 = dig r := by simpa using h'
    simp only [if_neg this]
theorem addC_old (out : List Chk) (t : List Nat) (r : Nat) : addC (out ++ [(t, dig r)]) r = out ++ [(t ++ [r], dig r)] := by
  unfold addC
  simp
theorem addC_run (out : List Chk) (b : Bool) : ∀ (xs t : List Nat), (∀ x ∈ xs, dig x = b) → xs.foldl addC (out ++ [(t, b)]) = out ++ [(t ++ xs, b)]
  | [], t, _ => by simp
  | x :: xs, t, h => by
    rw [List.foldl_cons]
    have hx := h x (List.mem_cons_self ..)
    have := addC_old out t x
    rw [hx] at this
    rw [this, addC_run out b xs (t ++ [x]) fun y hy => h y (List.mem_cons_of_mem _ hy)]
    simp
/-- A run of one kind, behind chunks the last of which is of the other one. -/
theorem addC_all (out : List Chk) (x : Nat) (xs : List Nat) (h : ∀ y ∈ xs, dig y = dig x) (hl : lastB out (dig x) = false) : (x :: xs).foldl addC out = out ++ [(x :: xs, dig x)] := by
  rw [List.foldl_cons, addC_new hl, addC_run out (dig x) xs [x] h]
  rfl
/-- What stands in a text's chunks so far, from the front: i runes gone through. -/
theorem chP_step (R : List Nat) (i k : Nat) (hik : i < k) (hk : k ≤ R.length) (hall : ∀ j (_ : i ≤ j) (h2 : j < k), dig (R[j]'(by omega)) = dig (R[i]'(by omega))) (hl : lastB (chP (R.take i)) (dig (R[i]'(by omega))) = false) :
    chP (R.take k) = chP (R.take i) ++ [((R.drop i).take (k - i), dig (R[i]'(by omega)))] := by
  have hi : i < R.length := by omega
  have e1 : R.take k = R.take i ++ (R.drop i).take (k - i) := by
    have := List.take_add (l := R) (i := i) (j := k - i)
    rw [show i + (k - i) = k by omega] at this
    exact this
  have e2 : (R.drop i).take (k - i) = R[i] :: (R.drop (i + 1)).take (k - i - 1) := by
    rw [List.drop_eq_getElem_cons hi, show k - i = (k - i - 1) + 1 by omega, List.take_succ_cons]
    rfl
  unfold chP at hl ⊢
  rw [e1, List.foldl_append, e2]
  refine addC_all _ _ _ (fun y hy => ?_) hl
  obtain ⟨j, hj, rfl⟩ := List.mem_iff_getElem.1 hy
  have hj' := hj
  rw [List.length_take, List.length_drop] at hj'
  rw [List.getElem_take, List.getElem_drop]
  exact hall (i + 1 + j) (by omega) (by omega)
theorem chP_last (R : List Nat) (i : Nat) (hi : 0 < i) (hn : i ≤ R.length) : (chP (R.take i)).getLast?.map (·.2) = some (dig (R[i - 1]'(by omega))) := by
  have e : R.take i = R.take (i - 1) ++ [R[i - 1]'(by omega)] := by
    have := List.take_succ_eq_append_getElem (l := R) (i := i - 1) (by omega)
    rw [show i - 1 + 1 = i by omega] at this
    exact this
  unfold chP
  rw [e, List.foldl_append]
  show (addC _ _).getLast?.map (·.2) = _
  generalize (R.take (i - 1)).foldl addC [] = out
  unfold addC
  split
  · simp
  · split
    · rename_i h
      simp [h]
    · simp
theorem lastB_of {R : List Nat} {i : Nat} (hn : i ≤ R.length) {b : Bool} (h : i = 0 ∨ ∃ h0 : 0 < i, dig (R[i - 1]'(by omega)) ≠ b) : lastB (chP (R.take i)) b = false := by
  rcases h with rfl | ⟨h0, h⟩
  · rfl
  · have hl := chP_last R i h0 hn
    unfold lastB
    cases hg : (chP (R.take i)).getLast? with
    | none => rfl
    | some c =>
      rw [hg] at hl
      simp at hl
      show (c.2 == b) = false
      rw [hl]
      simpa using h
theorem chP_len : ∀ (R : List Nat) (out : List Chk), (R.foldl addC out).length ≤ out.length + R.length
  | [], _ => Nat.le_refl _
  | r :: R, out => by
    rw [List.foldl_cons]
    refine Nat.le_trans (chP_len R _) ?_
    have : (addC out r).length ≤ out.length + 1 := by
      unfold addC
      split
      · simp
      · split
        · simp
        · simp
    rw [List.length_cons]
    omega
/-- Of each chunk all runes are of its kind, and there are some; all are runes of the text. -/
def ChOk (C : List Chk) : Prop := ∀ c ∈ C, c.1 ≠ [] ∧ ∀ r ∈ c.1, dig r = c.2
theorem chP_ok : ∀ (R : List Nat) (out : List Chk), ChOk out → ChOk (R.foldl addC out)
  | [], _, h => h
  | r :: R, out, h => by
    rw [List.foldl_cons]
    refine chP_ok R _ ?_
    intro c hc
    unfold addC at hc
    split at hc
    · rcases List.mem_append.1 hc with hc | hc
      · exact h c hc
      · rw [List.mem_singleton.1 hc]
        exact ⟨by simp, fun x hx => by rw [List.mem_singleton.1 hx]⟩
    · rename_i d hd
      split at hc
      · rename_i he
        rcases List.mem_append.1 hc with hc | hc
        · exact h c ((List.dropLast_subset _ hc))
        · rw [List.mem_singleton.1 hc]
          refine ⟨by simp, fun x hx => ?_⟩
          rcases List.mem_append.1 hx with hx | hx
          · exact (h d (List.mem_of_getLast? hd)).2 x hx
          · rw [List.mem_singleton.1 hx]
            exact he.symm
      · rcases List.mem_append.1 hc with hc | hc
        · exact h c hc
        · rw [List.mem_singleton.1 hc]
          exact ⟨by simp, fun x hx => by rw [List.mem_singleton.1 hx]⟩
theorem chP_sc : ∀ (R : List Nat) (out : List Chk), (∀ c ∈ out, ∀ r ∈ c.1, Sc r) → (∀ r ∈ R, Sc r) → ∀ c ∈ R.foldl addC out, ∀ r ∈ c.1, Sc r
  | [], _, h, _ => h
  | r :: R, out, h, hR => by
    rw [List.foldl_cons]
    refine chP_sc R _ ?_ fun x hx => hR x (List.mem_cons_of_mem _ hx)
    have hr := hR r (List.mem_cons_self ..)
    intro c hc
    unfold addC at hc
    split at hc
    · rcases List.mem_append.1 hc with hc | hc
      · exact h c hc
      · rw [List.mem_singleton.1 hc]
        exact fun x hx => by rw [List.mem_singleton.1 hx]; exact hr
    · rename_i d hd
      split at hc
      · rcases List.mem_append.1 hc with hc | hc
        · exact h c ((List.dropLast_subset _ hc))
        · rw [List.mem_singleton.1 hc]
          intro x hx
          rcases List.mem_append.1 hx with hx | hx
          · exact h d (List.mem_of_getLast? hd) x hx
          · rw [List.mem_singleton.1 hx]
            exact hr
      · rcases List.mem_append.1 hc with hc | hc
        · exact h c hc
        · rw [List.mem_singleton.1 hc]
          exact fun x hx => by rw [List.mem_singleton.1 hx]; exact hr

/-- A chunk as it lies: its text, and its kind. -/
abbrev Ch := ByteArray × Bool
def Chk.ch (c : Chk) : Ch := (strE c.1, c.2)
/-- A text's chunks. -/
def chunksB (s : ByteArray) : List Ch := (chP (rest s 0)).map Chk.ch
theorem chunksB_len (s : ByteArray) : (chunksB s).length ≤ s.size := by
  unfold chunksB chP
  rw [List.length_map]
  have h1 := chP_len (rest s 0) []
  have h2 := rest_length s 0
  simp at h1
  omega

/-- A row of digits without the noughts ahead. -/
def bareB (s : ByteArray) : ByteArray := ⟨((bl s).dropWhile (· == 48)).toArray⟩
/-- How two rows of digits stand. -/
def numC (a b : ByteArray) : Int := orL [cmpI (bareB a).size (bareB b).size, cmpT (bareB a) (bareB b)]
/-- How two chunks stand. -/
def cmpC (p q : Ch) : Int := if p.2 = true ∧ q.2 = true then numC p.1 q.1 else if p.2 = q.2 then cmpT (foldB p.1) (foldB q.1) else if p.2 = true then -1 else 1
/-- How two texts stand. -/
def natC (a b : ByteArray) : Int := orL [cmpL cmpC (chunksB a) (chunksB b), cmpT a b]
theorem cmp_C : Cmp cmpC where
  anti p q := by
    unfold cmpC
    obtain ⟨s, x⟩ := p
    obtain ⟨t, y⟩ := q
    have hn : numC t s = - numC s t := by
      unfold numC orL
      have h1 := cmp_I.anti ((bareB s).size : Int) (bareB t).size
      have h2 := cmp_T.anti (bareB s) (bareB t)
      simp only [orL]
      split <;> split <;> first | omega | (split <;> split <;> omega)
    have hf := cmp_T.anti (foldB s) (foldB t)
    cases x <;> cases y <;> simp <;> assumption
  tr p q r := by
    unfold cmpC
    obtain ⟨s, x⟩ := p
    obtain ⟨t, y⟩ := q
    obtain ⟨u, z⟩ := r
    have hn : numC s t ≤ 0 → numC t u ≤ 0 → numC s u ≤ 0 := by
      have h := ((cmp_I.by_ (fun s : ByteArray => ((bareB s).size : Int))).lex ((cmp_T.by_ bareB).lex Cmp.none_)).tr s t u
      exact h
    have hf := cmp_T.tr (foldB s) (foldB t) (foldB u)
    cases x <;> cases y <;> cases z <;> simp <;> assumption
theorem nat_C : Cmp natC := ((cmp_L cmp_C).by_ chunksB).lex (cmp_T.lex Cmp.none_)
theorem text_ext {a b : ByteArray} (h : a.toList = b.toList) : a = b := by
  rw [Go.ByteArray.toList_eq, Go.ByteArray.toList_eq] at h
  apply ByteArray.ext
  exact Array.toList_inj.1 h
theorem natC_zero (a b : ByteArray) : natC a b = 0 ↔ a = b := by
  constructor
  · intro h
    have h' : (if cmpL cmpC (chunksB a) (chunksB b) = 0 then (if cmpT a b = 0 then 0 else cmpT a b) else cmpL cmpC (chunksB a) (chunksB b)) = 0 := h
    have h0 : cmpT a b = 0 := by
      split at h'
      · split at h'
        · assumption
        · exact h'
      · exact absurd h' (by assumption)
    have h1 := (cmpT_zero a b).1 h0
    exact text_ext h1
  · intro h
    subst h
    have := nat_C.anti a a
    omega

theorem cmpT_of {a b c d : ByteArray} (h1 : bl a < bl b ↔ bl c < bl d) (h2 : bl b < bl a ↔ bl d < bl c) : cmpT a b = cmpT c d := by
  have e : ∀ x : ByteArray, x.toList = bl x := fun x => Go.ByteArray.toList_eq x
  rw [← e a, ← e b, ← e c, ← e d] at h1 h2
  have k1 := cmpT_lt a b
  have k2 := cmpT_lt c d
  have k3 := cmpT_lt b a
  have k4 := cmpT_lt d c
  have k5 := cmp_T.anti a b
  have k6 := cmp_T.anti c d
  have k7 : cmpT a b < 0 ↔ cmpT c d < 0 := k1.trans (h1.trans k2.symm)
  have k8 : cmpT b a < 0 ↔ cmpT d c < 0 := k3.trans (h2.trans k4.symm)
  rcases cmpT_cases a b with ⟨_, e1⟩ | ⟨_, _, e1⟩ | ⟨_, _, e1⟩ <;> rcases cmpT_cases c d with ⟨_, e2⟩ | ⟨_, _, e2⟩ | ⟨_, _, e2⟩ <;> omega
theorem lt_same (p x y : List UInt8) : p ++ x < p ++ y ↔ x < y := by
  induction p with
  | nil => exact Iff.rfl
  | cons a p ih =>
    rw [List.cons_append, List.cons_append, List.cons_lt_cons_iff]
    constructor
    · rintro (h | ⟨_, h⟩)
      · exact absurd h (UInt8.lt_irrefl a)
      · exact ih.1 h
    · exact fun h => .inr ⟨rfl, ih.2 h⟩
/-- A row of digits with so many noughts more ahead. -/
def padB (k : Nat) (s : ByteArray) : ByteArray := ⟨(List.replicate k 48 ++ bl s).toArray⟩
theorem bl_padB (k : Nat) (s : ByteArray) : bl (padB k s) = List.replicate k 48 ++ bl s := rfl
theorem size_padB (k : Nat) (s : ByteArray) : (padB k s).size = k + s.size := by
  rw [← bl_length, bl_padB, List.length_append, List.length_replicate, bl_length]
theorem padB_zero (s : ByteArray) : padB 0 s = s := (bl_is s).symm
def numR (a b : ByteArray) : Int := cmpT (padB (b.size - a.size) a) (padB (a.size - b.size) b)
def DgB (s : ByteArray) : Prop := ∀ c ∈ bl s, 48 ≤ c
theorem drop_split (l : List UInt8) : ∃ k, l = List.replicate k 48 ++ l.dropWhile (· == 48) := by
  induction l with
  | nil => exact ⟨0, rfl⟩
  | cons a l ih =>
    obtain ⟨k, hk⟩ := ih
    by_cases h : a = 48
    · refine ⟨k + 1, ?_⟩
      have e : (a :: l).dropWhile (· == 48) = l.dropWhile (· == 48) := by simp [h]
      rw [e, h, List.replicate_succ, List.cons_append, ← hk]
    · refine ⟨0, ?_⟩
      have e : (a :: l).dropWhile (· == 48) = a :: l := by simp [h]
      rw [e]
      rfl
theorem drop_head (l : List UInt8) : ∀ (c : UInt8) (t : List UInt8), l.dropWhile (· == 48) = c :: t → c ≠ 48 := by
  induction l with
  | nil => intro c t h; cases h
  | cons a l ih =>
    intro c t h
    by_cases h0 : a = 48
    · rw [show (a :: l).dropWhile (· == 48) = l.dropWhile (· == 48) by simp [h0]] at h
      exact ih c t h
    · rw [show (a :: l).dropWhile (· == 48) = a :: l by simp [h0]] at h
      injection h with h1 h2
      rw [← h1]
      exact h0
theorem lt_noughts {k : Nat} (hk : 0 < k) {x y : List UInt8} {c : UInt8} (hc : 48 < c) : List.replicate k 48 ++ x < c :: y ∧ ¬ c :: y < List.replicate k 48 ++ x := by
  obtain ⟨m, rfl⟩ : ∃ m, k = m + 1 := ⟨k - 1, by omega⟩
  rw [List.replicate_succ, List.cons_append]
  refine ⟨List.cons_lt_cons_iff.2 (.inl hc), fun h => ?_⟩
  exact List.lt_asymm h (List.cons_lt_cons_iff.2 (.inl hc))
/-- With noughts ahead rows of digits stand as numbers. -/
theorem numR_eq {a b : ByteArray} (ha : DgB a) (hb : DgB b) : numR a b = numC a b := by
  obtain ⟨i, hi⟩ := drop_split (bl a)
  obtain ⟨j, hj⟩ := drop_split (bl b)
  have ba : bl (bareB a) = (bl a).dropWhile (· == 48) := rfl
  have bb : bl (bareB b) = (bl b).dropWhile (· == 48) := rfl
  rw [← ba] at hi
  rw [← bb] at hj
  have la := congrArg List.length hi
  have lb := congrArg List.length hj
  rw [List.length_append, List.length_replicate, bl_length, bl_length] at la lb
  have ea : bl (padB (b.size - a.size) a) = List.replicate (b.size - a.size + i) 48 ++ bl (bareB a) := by
    conv => lhs; rw [bl_padB, hi]
    rw [← List.append_assoc, List.replicate_append_replicate]
  have eb : bl (padB (a.size - b.size) b) = List.replicate (a.size - b.size + j) 48 ++ bl (bareB b) := by
    conv => lhs; rw [bl_padB, hj]
    rw [← List.append_assoc, List.replicate_append_replicate]
  unfold numR numC
  have hd : ∀ s : ByteArray, DgB s → ∀ (c : UInt8) (t : List UInt8), bl (bareB s) = c :: t → 48 < c := fun s hs c t h => by
    have h1 := drop_head (bl s) c t h
    have h2 : c ∈ bl s := by
      have : c ∈ (bl s).dropWhile (· == 48) := by rw [show (bl s).dropWhile (· == 48) = c :: t from h]; exact List.mem_cons_self ..
      exact (List.dropWhile_sublist _).subset this
    have h3 := hs c h2
    exact UInt8.lt_of_le_of_ne h3 (Ne.symm h1)
  rcases Nat.lt_trichotomy (bareB a).size (bareB b).size with h | h | h
  · have e1 : cmpI ((bareB a).size : Int) (bareB b).size = -1 := by unfold cmpI; rw [if_pos (by omega)]
    rw [e1]
    show _ = -1
    obtain ⟨c, t, hct⟩ : ∃ c t, bl (bareB b) = c :: t := by
      cases hb9 : bl (bareB b) with
      | nil => rw [← bl_length (bareB b), hb9] at h; simp at h
      | cons c t => exact ⟨c, t, rfl⟩
    have hc := hd b hb c t hct
    have es : b.size - a.size + i = (a.size - b.size + j) + ((bareB b).size - (bareB a).size) := by omega
    rw [es, ← List.replicate_append_replicate, List.append_assoc] at ea
    have hl : bl (padB (b.size - a.size) a) < bl (padB (a.size - b.size) b) := by
      rw [ea, eb, lt_same, hct]
      exact (lt_noughts (by omega) hc).1
    have k := (cmpT_lt (padB (b.size - a.size) a) (padB (a.size - b.size) b)).2 (by rw [Go.ByteArray.toList_eq, Go.ByteArray.toList_eq]; exact hl)
    rcases cmpT_cases (padB (b.size - a.size) a) (padB (a.size - b.size) b) with ⟨_, e⟩ | ⟨_, _, e⟩ | ⟨_, _, e⟩ <;> omega
  · have e1 : cmpI ((bareB a).size : Int) (bareB b).size = 0 := by unfold cmpI; rw [if_neg (by omega), if_neg (by omega)]
    rw [e1]
    show _ = (if cmpT (bareB a) (bareB b) = 0 then 0 else cmpT (bareB a) (bareB b))
    have e2 : (if cmpT (bareB a) (bareB b) = 0 then 0 else cmpT (bareB a) (bareB b)) = cmpT (bareB a) (bareB b) := by split <;> omega
    rw [e2]
    have es : b.size - a.size + i = a.size - b.size + j := by omega
    rw [es] at ea
    exact cmpT_of (by rw [ea, eb, lt_same]) (by rw [ea, eb, lt_same])
  · have e1 : cmpI ((bareB a).size : Int) (bareB b).size = 1 := by unfold cmpI; rw [if_neg (by omega), if_pos (by omega)]
    rw [e1]
    show _ = 1
    obtain ⟨c, t, hct⟩ : ∃ c t, bl (bareB a) = c :: t := by
      cases hb9 : bl (bareB a) with
      | nil => rw [← bl_length (bareB a), hb9] at h; simp at h
      | cons c t => exact ⟨c, t, rfl⟩
    have hc := hd a ha c t hct
    have es : a.size - b.size + j = (b.size - a.size + i) + ((bareB a).size - (bareB b).size) := by omega
    rw [es, ← List.replicate_append_replicate, List.append_assoc] at eb
    have hl : bl (padB (a.size - b.size) b) < bl (padB (b.size - a.size) a) := by
      rw [ea, eb, lt_same, hct]
      exact (lt_noughts (by omega) hc).1
    have k := (cmpT_lt (padB (a.size - b.size) b) (padB (b.size - a.size) a)).2 (by rw [Go.ByteArray.toList_eq, Go.ByteArray.toList_eq]; exact hl)
    have k2 := cmp_T.anti (padB (b.size - a.size) a) (padB (a.size - b.size) b)
    rcases cmpT_cases (padB (b.size - a.size) a) (padB (a.size - b.size) b) with ⟨_, e⟩ | ⟨_, _, e⟩ | ⟨_, _, e⟩ <;> omega
theorem dgB_of {c : Chk} (h : ∀ r ∈ c.1, dig r = true) : DgB (strE c.1) := by
  intro x hx
  rw [bl_strE] at hx
  obtain ⟨r, hr, hx⟩ := List.mem_flatMap.1 hx
  have hd := h r hr
  unfold dig at hd
  simp at hd
  have e : enc r = [UInt8.ofNat r] := by
    have := enc_ascii (UInt8.ofNat r) (by rw [of_nat_u8 r (by omega)]; omega)
    rwa [of_nat_u8 r (by omega)] at this
  rw [e] at hx
  rw [List.mem_singleton.1 hx]
  show (48 : UInt8).toNat ≤ (UInt8.ofNat r).toNat
  rw [of_nat_u8 r (by omega)]
  exact hd.1
theorem chunks_dig (s : ByteArray) : ∀ c ∈ chunksB s, c.2 = true → DgB c.1 := by
  intro c hc h2
  obtain ⟨d, hd, rfl⟩ := List.mem_map.1 hc
  have hok := chP_ok (rest s 0) [] (fun _ h => by cases h) d hd
  exact dgB_of fun r hr => by rw [hok.2 r hr]; exact h2
end Go.Proofs.Ytfkooohnaodjmaa
