/- Plain: patterns of runes: their parts, and which texts they tell. No program is named here. -/
namespace Go.Proofs.YtedegdojbhegdaaDoor

/-- A part of a pattern: one of spans (0), none of them (1), any rune (2), any row (3). -/
structure Part where
  kind : Nat
  spans : List (Nat × Nat)
/-- The spans up to ], and how many runes they take with it. -/
def cl : List Nat → Option (List (Nat × Nat) × Nat)
  | [] => none
  | [a] => if a = 93 then some ([], 1) else none
  | [a, b] => if a = 93 then some ([], 1) else (cl [b]).map fun p => ((a, a) :: p.1, p.2 + 1)
  | a :: c :: b :: u => if a = 93 then some ([], 1) else if c = 45 ∧ b ≠ 93 then (if b < a then none else (cl u).map fun p => ((a, b) :: p.1, p.2 + 3)) else (cl (c :: b :: u)).map fun p => ((a, a) :: p.1, p.2 + 1)
theorem cl_nil : cl [] = none := rfl
theorem cl_end (t : List Nat) : cl (93 :: t) = some ([], 1) := by
  rcases t with _ | ⟨c, _ | ⟨b, u⟩⟩ <;> simp [cl]
theorem cl_span (a b : Nat) (u : List Nat) (ha : a ≠ 93) (hb : b ≠ 93) : cl (a :: 45 :: b :: u) = if b < a then none else (cl u).map fun p => ((a, b) :: p.1, p.2 + 3) := by
  rw [cl, if_neg ha, if_pos ⟨rfl, hb⟩]
theorem cl_one (a : Nat) (t : List Nat) (ha : a ≠ 93) (ht : ∀ b u, t = 45 :: b :: u → b = 93) : cl (a :: t) = (cl t).map fun p => ((a, a) :: p.1, p.2 + 1) := by
  rcases t with _ | ⟨c, _ | ⟨b, u⟩⟩
  · simp [cl, ha]
  · simp [cl, ha]
  · rw [cl, if_neg ha, if_neg]
    rintro ⟨rfl, hb⟩
    exact hb (ht b u rfl)
theorem cl_none : ∀ (n : Nat) (l : List Nat), l.length ≤ n → 93 ∉ l → cl l = none
  | _, [], _, _ => rfl
  | n + 1, a :: t, h, hm => by
    have ha : a ≠ 93 := fun e => hm (by rw [e]; exact .head _)
    have hn : t.length ≤ n := by simpa using h
    by_cases hs : ∃ b u, t = 45 :: b :: u ∧ b ≠ 93
    · obtain ⟨b, u, rfl, hb⟩ := hs
      rw [cl_span a b u ha hb]
      split
      · rfl
      · rw [cl_none n u (by simp at hn; omega) (fun hu => hm (.tail _ (.tail _ (.tail _ hu))))]
        rfl
    · rw [cl_one a t ha (fun b u e => Classical.byContradiction fun hb => hs ⟨b, u, e, hb⟩), cl_none n t hn (fun ht => hm (.tail _ ht))]
      rfl
theorem cl_mem : ∀ (n : Nat) (l : List Nat), l.length ≤ n → ∀ S k, cl l = some (S, k) → ∀ p ∈ S, p.1 ∈ l ∧ p.2 ∈ l
  | _, [], _, S, k, h, p, hp => by cases h
  | n + 1, a :: t, hl, S, k, h, p, hp => by
    have hn : t.length ≤ n := by simpa using hl
    by_cases ha : a = 93
    · subst ha
      rw [cl_end] at h
      injection h with h
      injection h with h1 h2
      subst h1
      cases hp
    by_cases hs : ∃ b u, t = 45 :: b :: u ∧ b ≠ 93
    · obtain ⟨b, u, rfl, hb⟩ := hs
      rw [cl_span a b u ha hb] at h
      split at h
      · cases h
      · cases hc : cl u with
        | none => rw [hc] at h; cases h
        | some q =>
          rw [hc] at h
          injection h with h
          injection h with h1 h2
          subst h1
          rcases List.mem_cons.1 hp with rfl | hp
          · exact ⟨.head _, .tail _ (.tail _ (.head _))⟩
          · have := cl_mem n u (by simp at hn; omega) q.1 q.2 hc p hp
            exact ⟨.tail _ (.tail _ (.tail _ this.1)), .tail _ (.tail _ (.tail _ this.2))⟩
    · rw [cl_one a t ha (fun b u e => Classical.byContradiction fun hb => hs ⟨b, u, e, hb⟩)] at h
      cases hc : cl t with
      | none => rw [hc] at h; cases h
      | some q =>
        rw [hc] at h
        injection h with h
        injection h with h1 h2
        subst h1
        rcases List.mem_cons.1 hp with rfl | hp
        · exact ⟨.head _, .head _⟩
        · have := cl_mem n t hn q.1 q.2 hc p hp
          exact ⟨.tail _ this.1, .tail _ this.2⟩
theorem cl_pos : ∀ (n : Nat) (l : List Nat), l.length ≤ n → ∀ S k, cl l = some (S, k) → 1 ≤ k ∧ k ≤ l.length
  | _, [], _, S, k, h => by cases h
  | n + 1, a :: t, hl, S, k, h => by
    have hn : t.length ≤ n := by simpa using hl
    by_cases ha : a = 93
    · subst ha
      rw [cl_end] at h
      injection h with h
      injection h with h1 h2
      subst h2
      exact ⟨Nat.le_refl _, by simp⟩
    by_cases hs : ∃ b u, t = 45 :: b :: u ∧ b ≠ 93
    · obtain ⟨b, u, rfl, hb⟩ := hs
      rw [cl_span a b u ha hb] at h
      split at h
      · cases h
      · cases hc : cl u with
        | none => rw [hc] at h; cases h
        | some q =>
          rw [hc] at h
          injection h with h
          injection h with h1 h2
          subst h2
          have := cl_pos n u (by simp at hn; omega) q.1 q.2 hc
          simp
          omega
    · rw [cl_one a t ha (fun b u e => Classical.byContradiction fun hb => hs ⟨b, u, e, hb⟩)] at h
      cases hc : cl t with
      | none => rw [hc] at h; cases h
      | some q =>
        rw [hc] at h
        injection h with h
        injection h with h1 h2
        subst h2
        have := cl_pos n t hn q.1 q.2 hc
        simp
        omega
theorem cl_len : ∀ (n : Nat) (l : List Nat), l.length ≤ n → ∀ S k, cl l = some (S, k) → S.length + 1 ≤ k
  | _, [], _, S, k, h => by cases h
  | n + 1, a :: t, hl, S, k, h => by
    have hn : t.length ≤ n := by simpa using hl
    by_cases ha : a = 93
    · subst ha
      rw [cl_end] at h
      injection h with h
      injection h with h1 h2
      subst h1 h2
      exact Nat.le_refl _
    by_cases hs : ∃ b u, t = 45 :: b :: u ∧ b ≠ 93
    · obtain ⟨b, u, rfl, hb⟩ := hs
      rw [cl_span a b u ha hb] at h
      split at h
      · cases h
      · cases hc : cl u with
        | none => rw [hc] at h; cases h
        | some q =>
          rw [hc] at h
          injection h with h
          injection h with h1 h2
          subst h1 h2
          have := cl_len n u (by simp at hn; omega) q.1 q.2 hc
          simp
          omega
    · rw [cl_one a t ha (fun b u e => Classical.byContradiction fun hb => hs ⟨b, u, e, hb⟩)] at h
      cases hc : cl t with
      | none => rw [hc] at h; cases h
      | some q =>
        rw [hc] at h
        injection h with h
        injection h with h1 h2
        subst h1 h2
        have := cl_len n t hn q.1 q.2 hc
        simp
        omega
/-- What is behind the class does not turn it; a row of runes that is none is none with a star behind it. -/
theorem cl_app : ∀ (n : Nat) (l : List Nat), l.length ≤ n → ∀ S k, cl l = some (S, k) → ∀ x, cl (l ++ x) = some (S, k)
  | _, [], _, S, k, h, x => by cases h
  | n + 1, a :: t, hl, S, k, h, x => by
    have hn : t.length ≤ n := by simpa using hl
    by_cases ha : a = 93
    · subst ha
      rw [cl_end] at h
      rw [List.cons_append, cl_end]
      exact h
    by_cases hs : ∃ b u, t = 45 :: b :: u ∧ b ≠ 93
    · obtain ⟨b, u, rfl, hb⟩ := hs
      rw [cl_span a b u ha hb] at h
      rw [List.cons_append, List.cons_append, List.cons_append, cl_span a b _ ha hb]
      split at h
      · cases h
      · rename_i hba
        rw [if_neg hba]
        cases hc : cl u with
        | none => rw [hc] at h; cases h
        | some q =>
          rw [cl_app n u (by simp at hn; omega) q.1 q.2 hc x, ← h, hc]
    · have h1 := fun b u e => Classical.byContradiction fun hb => hs ⟨b, u, e, hb⟩
      rw [cl_one a t ha h1] at h
      cases hc : cl t with
      | none => rw [hc] at h; cases h
      | some q =>
        have ht : t ≠ [] := by rintro rfl; cases hc
        have h2 : ∀ b u, t ++ x = 45 :: b :: u → b = 93 := by
          intro b u e
          rcases t with _ | ⟨c, _ | ⟨d, v⟩⟩
          · exact (ht rfl).elim
          · injection e with e1 e2
            subst e1
            cases hc
          · injection e with e1 e2
            injection e2 with e2 e3
            subst e1 e2
            exact h1 d v rfl
        rw [List.cons_append, cl_one a _ ha h2, cl_app n t hn q.1 q.2 hc x, ← h, hc]
theorem cl_star : ∀ (n : Nat) (l : List Nat), l.length ≤ n → cl l = none → cl (l ++ [42]) = none
  | _, [], _, _ => by rfl
  | n + 1, a :: t, hl, h => by
    have hn : t.length ≤ n := by simpa using hl
    by_cases ha : a = 93
    · subst ha
      rw [cl_end] at h
      cases h
    by_cases hs : ∃ b u, t = 45 :: b :: u ∧ b ≠ 93
    · obtain ⟨b, u, rfl, hb⟩ := hs
      rw [cl_span a b u ha hb] at h
      rw [List.cons_append, List.cons_append, List.cons_append, cl_span a b _ ha hb]
      split at h
      · rename_i hba
        rw [if_pos hba]
      · rename_i hba
        rw [if_neg hba]
        cases hc : cl u with
        | some q => rw [hc] at h; cases h
        | none =>
          rw [cl_star n u (by simp at hn; omega) hc]
          rfl
    · have h1 := fun b u e => Classical.byContradiction fun hb => hs ⟨b, u, e, hb⟩
      rw [cl_one a t ha h1] at h
      cases hc : cl t with
      | some q => rw [hc] at h; cases h
      | none =>
        by_cases h3 : t = [45]
        · subst h3
          rw [show a :: [45] ++ [42] = a :: 45 :: 42 :: [] from rfl, cl_span a 42 [] ha (by decide)]
          split <;> rfl
        · have h2 : ∀ b u, t ++ [42] = 45 :: b :: u → b = 93 := by
            intro b u e
            rcases t with _ | ⟨c, _ | ⟨d, v⟩⟩
            · injection e with e1 e2
              cases e1
            · injection e with e1 e2
              subst e1
              exact (h3 rfl).elim
            · injection e with e1 e2
              injection e2 with e2 e3
              subst e1 e2
              exact h1 d v rfl
          rw [List.cons_append, cl_one a _ ha h2, cl_star n t hn hc]
          rfl

/-- The class behind [, and how many runes it takes. -/
def classP (l : List Nat) : Option (Part × Nat) :=
  match (if l.head? = some 94 then cl l.tail else cl l) with
  | none => none
  | some (S, n) => if S = [] then none else some (if l.head? = some 94 then (⟨1, S⟩, n + 1) else (⟨0, S⟩, n))
theorem classP_not (t : List Nat) : classP (94 :: t) = match cl t with | none => none | some (S, n) => if S = [] then none else some (⟨1, S⟩, n + 1) := by
  simp [classP]
theorem classP_in (l : List Nat) (h : l.head? ≠ some 94) : classP l = match cl l with | none => none | some (S, n) => if S = [] then none else some (⟨0, S⟩, n) := by
  simp [classP, h]
theorem classP_le {l : List Nat} {p : Part} {n : Nat} (h : classP l = some (p, n)) : 1 ≤ n ∧ n ≤ l.length ∧ p.kind ≤ 1 ∧ p.spans ≠ [] ∧ ∀ q ∈ p.spans, q.1 ∈ l ∧ q.2 ∈ l := by
  by_cases h0 : l.head? = some 94
  · rcases l with _ | ⟨a, t⟩
    · cases h0
    · injection h0 with h0
      subst h0
      rw [classP_not] at h
      cases hc : cl t with
      | none => rw [hc] at h; cases h
      | some q =>
        rw [hc] at h
        simp only at h
        split at h
        · cases h
        · rename_i hne
          injection h with h
          injection h with h1 h2
          subst h1 h2
          have := cl_pos t.length t (Nat.le_refl _) q.1 q.2 hc
          refine ⟨by omega, by simp; omega, by simp, hne, fun x hx => ?_⟩
          have := cl_mem t.length t (Nat.le_refl _) q.1 q.2 hc x hx
          exact ⟨.tail _ this.1, .tail _ this.2⟩
  · rw [classP_in l h0] at h
    cases hc : cl l with
    | none => rw [hc] at h; cases h
    | some q =>
      rw [hc] at h
      simp only at h
      split at h
      · cases h
      · rename_i hne
        injection h with h
        injection h with h1 h2
        subst h1 h2
        have := cl_pos l.length l (Nat.le_refl _) q.1 q.2 hc
        exact ⟨by omega, by omega, by simp, hne, cl_mem l.length l (Nat.le_refl _) q.1 q.2 hc⟩
theorem classP_len {l : List Nat} {p : Part} {n : Nat} (h : classP l = some (p, n)) : p.spans.length ≤ n := by
  by_cases h0 : l.head? = some 94
  · rcases l with _ | ⟨a, t⟩
    · cases h0
    · injection h0 with h0
      subst h0
      rw [classP_not] at h
      cases hc : cl t with
      | none => rw [hc] at h; cases h
      | some q =>
        rw [hc] at h
        simp only at h
        split at h
        · cases h
        · injection h with h
          injection h with h1 h2
          subst h1 h2
          have := cl_len t.length t (Nat.le_refl _) q.1 q.2 hc
          simp only
          omega
  · rw [classP_in l h0] at h
    cases hc : cl l with
    | none => rw [hc] at h; cases h
    | some q =>
      rw [hc] at h
      simp only at h
      split at h
      · cases h
      · injection h with h
        injection h with h1 h2
        subst h1 h2
        have := cl_len l.length l (Nat.le_refl _) q.1 q.2 hc
        simp only
        omega
theorem classP_app {l : List Nat} {p : Part} {n : Nat} (h : classP l = some (p, n)) (x : List Nat) : classP (l ++ x) = some (p, n) := by
  by_cases h0 : l.head? = some 94
  · rcases l with _ | ⟨a, t⟩
    · cases h0
    · injection h0 with h0
      subst h0
      rw [classP_not] at h
      rw [List.cons_append, classP_not]
      cases hc : cl t with
      | none => rw [hc] at h; cases h
      | some q => rw [cl_app t.length t (Nat.le_refl _) q.1 q.2 hc x, ← h, hc]
  · rw [classP_in l h0] at h
    cases hc : cl l with
    | none => rw [hc] at h; cases h
    | some q =>
      have hne : l ≠ [] := by rintro rfl; cases hc
      rw [classP_in (l ++ x) (by rcases l with _ | ⟨a, t⟩; exact (hne rfl).elim; exact h0), cl_app l.length l (Nat.le_refl _) q.1 q.2 hc x, ← h, hc]
theorem classP_star {l : List Nat} (h : classP l = none) : classP (l ++ [42]) = none := by
  by_cases h0 : l.head? = some 94
  · rcases l with _ | ⟨a, t⟩
    · cases h0
    · injection h0 with h0
      subst h0
      rw [classP_not] at h
      rw [List.cons_append, classP_not]
      cases hc : cl t with
      | none => rw [cl_star t.length t (Nat.le_refl _) hc]
      | some q => rw [cl_app t.length t (Nat.le_refl _) q.1 q.2 hc]; rw [hc] at h; exact h
  · rw [classP_in l h0] at h
    by_cases hne : l = []
    · subst hne
      rfl
    rw [classP_in (l ++ [42]) (by rcases l with _ | ⟨a, t⟩; exact (hne rfl).elim; exact h0)]
    cases hc : cl l with
    | none => rw [cl_star l.length l (Nat.le_refl _) hc]
    | some q => rw [cl_app l.length l (Nat.le_refl _) q.1 q.2 hc]; rw [hc] at h; exact h

def ptF : Nat → List Nat → Option (List Part)
  | _, [] => some []
  | 0, _ :: _ => none
  | f + 1, r :: t => if r = 42 then (ptF f t).map (⟨3, []⟩ :: ·) else if r = 63 then (ptF f t).map (⟨2, []⟩ :: ·)
    else if r = 91 then (match classP t with | none => none | some (p, n) => (ptF f (t.drop n)).map (p :: ·)) else (ptF f t).map (⟨0, [(r, r)]⟩ :: ·)
theorem ptF_fuel : ∀ (f g : Nat) (l : List Nat), l.length ≤ f → l.length ≤ g → ptF f l = ptF g l
  | f, g, [], _, _ => by cases f <;> cases g <;> rfl
  | 0, _, r :: t, h, _ => by simp at h
  | _ + 1, 0, r :: t, _, h => by simp at h
  | f + 1, g + 1, r :: t, hf, hg => by
    simp only [List.length_cons, Nat.add_le_add_iff_right] at hf hg
    rw [ptF, ptF, ptF_fuel f g t hf hg]
    cases hc : classP t with
    | none => rfl
    | some q =>
      simp only
      rw [ptF_fuel f g (t.drop q.2) (by simp; omega) (by simp; omega)]
/-- The parts of a pattern's runes. -/
def pt (l : List Nat) : Option (List Part) := ptF l.length l
theorem pt_nil : pt [] = some [] := rfl
theorem pt_cons (r : Nat) (t : List Nat) : pt (r :: t) = if r = 42 then (pt t).map (⟨3, []⟩ :: ·) else if r = 63 then (pt t).map (⟨2, []⟩ :: ·)
    else if r = 91 then (match classP t with | none => none | some (p, n) => (pt (t.drop n)).map (p :: ·)) else (pt t).map (⟨0, [(r, r)]⟩ :: ·) := by
  unfold pt
  rw [List.length_cons, ptF]
  cases hc : classP t with
  | none => rfl
  | some q =>
    simp only
    rw [ptF_fuel t.length (t.drop q.2).length (t.drop q.2) (by simp) (Nat.le_refl _)]
theorem pt_star : ∀ (n : Nat) (l : List Nat), l.length ≤ n → pt (l ++ [42]) = (pt l).map (· ++ [⟨3, []⟩])
  | _, [], _ => rfl
  | n + 1, r :: t, h => by
    have hn : t.length ≤ n := by simpa using h
    have ht := pt_star n t hn
    rw [List.cons_append, pt_cons, pt_cons, ht]
    split
    · cases pt t <;> rfl
    split
    · cases pt t <;> rfl
    split
    · cases hc : classP t with
      | none => rw [classP_star hc]; rfl
      | some q =>
        obtain ⟨p, m⟩ := q
        rw [classP_app hc]
        simp only
        have hle := (classP_le hc).2.1
        rw [List.drop_append_of_le_length hle, pt_star n (t.drop m) (by simp; omega)]
        cases pt (t.drop m) <;> rfl
    · cases pt t <;> rfl
theorem pt_around (l : List Nat) : pt (42 :: (l ++ [42])) = (pt l).map fun P => ⟨3, []⟩ :: (P ++ [⟨3, []⟩]) := by
  rw [pt_cons, if_pos rfl, pt_star l.length l (Nat.le_refl _)]
  cases pt l <;> rfl

/-- Does a part tell one rune alone, and which? -/
def plainP (p : Part) : Option Nat := if p.kind = 0 then (match p.spans with | [(a, b)] => if a = b then some a else none | _ => none) else none
def aheadP : List Part → List Nat
  | [] => []
  | p :: t => match plainP p with | some r => r :: aheadP t | none => []
def allP (P : List Part) : Bool := P.all fun p => (plainP p).isSome
theorem plainP_some {p : Part} {r : Nat} (h : plainP p = some r) : p = ⟨0, [(r, r)]⟩ := by
  unfold plainP at h
  split at h
  · rename_i hk
    split at h
    · rename_i a b hs
      split at h
      · rename_i hab
        injection h with h
        subst h hab
        cases p
        simp_all
      · cases h
    · cases h
  · cases h
theorem ahead_len : ∀ P : List Part, (aheadP P).length ≤ P.length
  | [] => Nat.le_refl _
  | p :: t => by
    rw [aheadP]
    split
    · have := ahead_len t
      simp
      exact this
    · simp
theorem ahead_all : ∀ P : List Part, allP P = decide ((aheadP P).length = P.length)
  | [] => rfl
  | p :: t => by
    have := ahead_all t
    rw [aheadP]
    unfold allP at this ⊢
    rw [List.all_cons]
    cases hp : plainP p with
    | none => simp
    | some r => simp [this]
theorem ahead_get : ∀ (P : List Part) (i : Nat) (h : i < (aheadP P).length), P[i]? = some ⟨0, [((aheadP P)[i], (aheadP P)[i])]⟩
  | [], i, h => by cases h
  | p :: t, i, h => by
    cases hp : plainP p with
    | none =>
      have : aheadP (p :: t) = [] := by rw [aheadP, hp]
      rw [this] at h
      cases h
    | some r =>
      have he : aheadP (p :: t) = r :: aheadP t := by rw [aheadP, hp]
      generalize aheadP (p :: t) = A at he h
      subst he
      cases i with
      | zero => simp [plainP_some hp]
      | succ i =>
        have hi : i < (aheadP t).length := by simpa using h
        have := ahead_get t i hi
        simp only [List.getElem?_cons_succ, List.getElem_cons_succ]
        exact this
theorem pt_mem : ∀ (n : Nat) (l : List Nat), l.length ≤ n → ∀ P, pt l = some P → ∀ p ∈ P, ∀ q ∈ p.spans, q.1 ∈ l ∧ q.2 ∈ l
  | _, [], _, P, h, p, hp, q, hq => by
    injection h with h
    subst h
    cases hp
  | n + 1, r :: t, hl, P, h, p, hp, q, hq => by
    have hn : t.length ≤ n := by simpa using hl
    rw [pt_cons] at h
    have key : ∀ (x : Part) (u : List Nat), u.length ≤ n → (∀ y ∈ u, y ∈ t) → (∀ q ∈ x.spans, q.1 ∈ r :: t ∧ q.2 ∈ r :: t) → (pt u).map (x :: ·) = some P → q.1 ∈ r :: t ∧ q.2 ∈ r :: t := by
      intro x u hu hsub hx he
      cases hc : pt u with
      | none => rw [hc] at he; cases he
      | some L =>
        rw [hc] at he
        injection he with he
        subst he
        rcases List.mem_cons.1 hp with rfl | hp
        · exact hx q hq
        · have := pt_mem n u hu L hc p hp q hq
          exact ⟨.tail _ (hsub _ this.1), .tail _ (hsub _ this.2)⟩
    split at h
    · exact key _ t hn (fun _ h => h) (by simp) h
    split at h
    · exact key _ t hn (fun _ h => h) (by simp) h
    split at h
    · cases hc : classP t with
      | none => rw [hc] at h; cases h
      | some x =>
        rw [hc] at h
        exact key x.1 (t.drop x.2) (by simp; omega) (fun y hy => List.mem_of_mem_drop hy) (fun q hq => by
          have := (classP_le (p := x.1) (n := x.2) hc).2.2.2.2 q hq
          exact ⟨.tail _ this.1, .tail _ this.2⟩) h
    · exact key _ t hn (fun _ h => h) (by simp) h
theorem ahead_mem {l : List Nat} {P : List Part} (h : pt l = some P) : ∀ r ∈ aheadP P, r ∈ l := by
  intro r hr
  obtain ⟨i, hi, rfl⟩ := List.getElem_of_mem hr
  have hg := ahead_get P i hi
  exact (pt_mem l.length l (Nat.le_refl _) P h _ (List.mem_of_getElem? hg) _ (.head _)).1
theorem pt_len : ∀ (n : Nat) (l : List Nat), l.length ≤ n → ∀ P, pt l = some P → P.length ≤ l.length
  | _, [], _, P, h => by
    injection h with h
    subst h
    simp
  | n + 1, r :: t, hl, P, h => by
    have hn : t.length ≤ n := by simpa using hl
    rw [pt_cons] at h
    have key : ∀ (x : Part) (u : List Nat), u.length ≤ t.length → (pt u).map (x :: ·) = some P → P.length ≤ (r :: t).length := by
      intro x u hu he
      cases hc : pt u with
      | none => rw [hc] at he; cases he
      | some L =>
        rw [hc] at he
        injection he with he
        subst he
        have := pt_len n u (by omega) L hc
        simp
        omega
    split at h
    · exact key _ t (Nat.le_refl _) h
    split at h
    · exact key _ t (Nat.le_refl _) h
    split at h
    · cases hc : classP t with
      | none => rw [hc] at h; cases h
      | some x =>
        rw [hc] at h
        exact key x.1 (t.drop x.2) (by simp) h
    · exact key _ t (Nat.le_refl _) h

/-- Has a part a rune? -/
def inS (S : List (Nat × Nat)) (r : Nat) : Bool := S.any fun q => decide (q.1 ≤ r ∧ r ≤ q.2)
def hasP (p : Part) (r : Nat) : Bool := p.kind == 2 || p.kind == 0 && inS p.spans r || p.kind == 1 && !inS p.spans r
def rowP (P : List Part) (i : Nat) : Bool := match P[i]? with | some p => p.kind == 3 | none => false
def oneP (P : List Part) (i r : Nat) : Bool := match P[i]? with | some p => hasP p r | none => false
/-- Do the first i parts tell the first k runes? -/
def Mt (P : List Part) (T : List Nat) : Nat → Nat → Bool
  | 0, 0 => true
  | 0, _ + 1 => false
  | i + 1, 0 => rowP P i && Mt P T i 0
  | i + 1, k + 1 => if rowP P i then Mt P T i (k + 1) || Mt P T (i + 1) k else Mt P T i k && oneP P i (T.getD k 0)
def matchP (P : List Part) (T : List Nat) : Bool := Mt P T P.length T.length
theorem Mt_row {P : List Part} {T : List Nat} {i k : Nat} (hr : rowP P i = true) (h : Mt P T i k = true) : Mt P T (i + 1) k = true := by
  cases k with
  | zero => rw [Mt, hr, h]; rfl
  | succ k => rw [Mt, if_pos hr, h]; rfl
theorem Mt_more {P : List Part} {T : List Nat} {i k : Nat} (hr : rowP P i = true) (h : Mt P T (i + 1) k = true) : Mt P T (i + 1) (k + 1) = true := by
  rw [Mt, if_pos hr, h, Bool.or_true]
theorem Mt_one {P : List Part} {T : List Nat} {i k : Nat} (hr : rowP P i = false) (h : Mt P T i k = true) (ho : oneP P i (T.getD k 0) = true) : Mt P T (i + 1) (k + 1) = true := by
  rw [Mt, hr, h, ho]
  rfl
theorem Mt_ind {P : List Part} {T : List Nat} {C : Nat → Nat → Prop} (h0 : C 0 0) (hrow : ∀ i k, rowP P i = true → Mt P T i k = true → C i k → C (i + 1) k) (hmore : ∀ i k, rowP P i = true → Mt P T (i + 1) k = true → C (i + 1) k → C (i + 1) (k + 1))
    (hone : ∀ i k, rowP P i = false → Mt P T i k = true → C i k → oneP P i (T.getD k 0) = true → C (i + 1) (k + 1)) : ∀ i k, Mt P T i k = true → C i k
  | 0, 0, _ => h0
  | 0, k + 1, h => by rw [Mt] at h; cases h
  | i + 1, 0, h => by
    rw [Mt, Bool.and_eq_true] at h
    exact hrow i 0 h.1 h.2 (Mt_ind h0 hrow hmore hone i 0 h.2)
  | i + 1, k + 1, h => by
    rw [Mt] at h
    by_cases hr : rowP P i = true
    · rw [if_pos hr, Bool.or_eq_true] at h
      rcases h with h | h
      · exact hrow i _ hr h (Mt_ind h0 hrow hmore hone i (k + 1) h)
      · exact hmore i k hr h (Mt_ind h0 hrow hmore hone (i + 1) k h)
    · rw [if_neg hr, Bool.and_eq_true] at h
      exact hone i k (by simpa using hr) h.1 (Mt_ind h0 hrow hmore hone i k h.1) h.2
theorem row_ahead {P : List Part} {i : Nat} (h : i < (aheadP P).length) : rowP P i = false := by
  unfold rowP
  rw [ahead_get P i h]
  rfl
theorem one_ahead {P : List Part} {i r : Nat} (h : i < (aheadP P).length) : oneP P i r = decide ((aheadP P)[i] = r) := by
  unfold oneP
  rw [ahead_get P i h]
  simp only [hasP, inS, List.any_cons, List.any_nil, Bool.or_false]
  rw [Bool.eq_iff_iff]
  simp
  omega
/-- What a pattern tells begins with what it begins with. -/
theorem ahead_match (P : List Part) (T : List Nat) : ∀ i k, Mt P T i k = true → (∀ j, j < i → (h : j < (aheadP P).length) → j < k ∧ T.getD j 0 = (aheadP P)[j]) ∧ (i ≤ (aheadP P).length → k = i) := by
  refine Mt_ind ?_ ?_ ?_ ?_
  · exact ⟨fun j h => by omega, fun _ => rfl⟩
  · rintro i k hr _ ⟨h1, h2⟩
    have hi : ¬ i < (aheadP P).length := fun h => by rw [row_ahead h] at hr; cases hr
    exact ⟨fun j hj h => h1 j (by omega) h, fun h => by omega⟩
  · rintro i k hr _ ⟨h1, h2⟩
    have hi : ¬ i < (aheadP P).length := fun h => by rw [row_ahead h] at hr; cases hr
    refine ⟨fun j hj h => ?_, fun h => by omega⟩
    have := h1 j hj h
    exact ⟨by omega, this.2⟩
  · rintro i k hr _ ⟨h1, h2⟩ ho
    refine ⟨fun j hj h => ?_, fun h => by have := h2 (by omega); omega⟩
    by_cases hji : j = i
    · subst hji
      have hk := h2 (by omega)
      subst hk
      rw [one_ahead h] at ho
      exact ⟨by omega, (of_decide_eq_true ho).symm⟩
    · have := h1 j (by omega) h
      exact ⟨by omega, this.2⟩
theorem ahead_prefix {P : List Part} {T : List Nat} (h : matchP P T = true) : ∃ U, T = aheadP P ++ U := by
  have h1 := (ahead_match P T _ _ h).1
  have hl := ahead_len P
  refine ⟨T.drop (aheadP P).length, ?_⟩
  have ht : T.take (aheadP P).length = aheadP P := by
    apply List.ext_getElem?
    intro j
    by_cases hj : j < (aheadP P).length
    · have := h1 j (by omega) hj
      rw [List.getElem?_take_of_lt hj, List.getElem?_eq_getElem hj, ← this.2, List.getElem?_eq_getElem this.1]
      simp [List.getD_eq_getElem?_getD, this.1]
    · rw [List.getElem?_eq_none (by simp; omega), List.getElem?_eq_none (by omega)]
  have h2 := List.take_append_drop (aheadP P).length T
  rw [ht] at h2
  exact h2.symm
/-- A pattern that tells one text alone tells it. -/
theorem plain_match {P : List Part} (h : allP P = true) : matchP P (aheadP P) = true := by
  rw [ahead_all] at h
  have hl := of_decide_eq_true h
  have key : ∀ i, i ≤ (aheadP P).length → Mt P (aheadP P) i i = true := by
    intro i
    induction i with
    | zero => intro _; rw [Mt]
    | succ i ih =>
      intro hi
      refine Mt_one (row_ahead (by omega)) (ih (by omega)) ?_
      rw [one_ahead (by omega)]
      simp [List.getD_eq_getElem?_getD, show i < (aheadP P).length by omega]
  have := key _ (Nat.le_refl _)
  unfold matchP
  rw [← hl]
  exact this
theorem row_in {P : List Part} (i : Nat) : rowP (⟨3, []⟩ :: (P ++ [⟨3, []⟩])) (i + 1) = (rowP P i || decide (i = P.length)) ∧ (i < P.length → ∀ r, oneP (⟨3, []⟩ :: (P ++ [⟨3, []⟩])) (i + 1) r = oneP P i r) := by
  unfold rowP oneP
  rw [List.getElem?_cons_succ]
  by_cases h : i < P.length
  · rw [List.getElem?_append_left h]
    refine ⟨?_, fun _ _ => rfl⟩
    rw [decide_eq_false (by omega), Bool.or_false]
  · refine ⟨?_, fun h' => (h h').elim⟩
    rw [List.getElem?_append_right (by omega), List.getElem?_eq_none (l := P) (by omega)]
    by_cases he : i = P.length
    · subst he
      simp
    · rw [List.getElem?_eq_none (by simp; omega), decide_eq_false he]
      rfl
/-- With rows around it a pattern tells each text that has what it tells within it. -/
theorem within {P : List Part} {T0 T1 T2 : List Nat} (h : matchP P T1 = true) : matchP (⟨3, []⟩ :: (P ++ [⟨3, []⟩])) (T0 ++ T1 ++ T2) = true := by
  have q0 : ∀ k, Mt (⟨3, []⟩ :: (P ++ [⟨3, []⟩])) (T0 ++ T1 ++ T2) 1 k = true := by
    intro k
    induction k with
    | zero => rw [Mt, Mt]; rfl
    | succ k ih => exact Mt_more rfl ih
  have q1 : ∀ i k, Mt P T1 i k = true → i ≤ P.length → k ≤ T1.length → Mt (⟨3, []⟩ :: (P ++ [⟨3, []⟩])) (T0 ++ T1 ++ T2) (i + 1) (T0.length + k) = true := by
    refine Mt_ind ?_ ?_ ?_ ?_
    · intro _ _
      exact q0 _
    · intro i k hr _ ih hi hk
      refine Mt_row ?_ (ih (by omega) hk)
      rw [(row_in i).1, hr]
      rfl
    · intro i k hr _ ih hi hk
      refine Mt_more ?_ (ih hi (by omega))
      rw [(row_in i).1, hr]
      rfl
    · intro i k hr _ ih ho hi hk
      refine Mt_one ?_ (ih (by omega) (by omega)) ?_
      · rw [(row_in i).1, hr, decide_eq_false (by omega)]
        rfl
      · rw [(row_in i).2 (by omega)]
        rw [← ho]
        congr 1
        show (T0 ++ T1 ++ T2).getD (T0.length + k) 0 = _
        rw [List.getD_eq_getElem?_getD, List.getD_eq_getElem?_getD, List.append_assoc, List.getElem?_append_right (by omega), Nat.add_sub_cancel_left, List.getElem?_append_left (by omega)]
  have h1 := q1 _ _ h (Nat.le_refl _) (Nat.le_refl _)
  have hlast : rowP (⟨3, []⟩ :: (P ++ [⟨3, []⟩])) (P.length + 1) = true := by
    rw [(row_in P.length).1]
    simp
  have h2 := Mt_row hlast h1
  have h3 : ∀ j, Mt (⟨3, []⟩ :: (P ++ [⟨3, []⟩])) (T0 ++ T1 ++ T2) (P.length + 1 + 1) (T0.length + T1.length + j) = true := by
    intro j
    induction j with
    | zero => exact h2
    | succ j ih => exact Mt_more hlast ih
  unfold matchP
  have := h3 T2.length
  simpa [List.length_append, Nat.add_assoc] using this
end Go.Proofs.YtedegdojbhegdaaDoor
