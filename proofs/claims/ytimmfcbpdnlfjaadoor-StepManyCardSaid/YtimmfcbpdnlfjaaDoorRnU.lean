/- Plain: a text in quotes, and back. No program is named here. -/
import Derived.Test.YtimmfcbpdnlfjaaDoorRnB
import Derived.Test.YtimmfcbpdnlfjaaDoorRnRT
import Derived.Test.YtimmfcbpdnlfjaaDoorRnD
namespace Go.Proofs.YtimmfcbpdnlfjaaDoor
open Go.Lib

def figC (n : Nat) : UInt8 := if n < 10 then UInt8.ofNat (48 + n) else UInt8.ofNat (87 + n)
def figI (c : UInt8) : Int := if 48 ≤ c.toNat ∧ c.toNat ≤ 57 then (c.toNat : Int) - 48 else if 97 ≤ c.toNat ∧ c.toNat ≤ 102 then (c.toNat : Int) - 87 else -1
theorem figI_C : ∀ n : Fin 16, figI (figC n.val) = (n.val : Int) := by decide +kernel
theorem figI_of (n : Nat) (h : n < 16) : figI (figC n) = n := figI_C ⟨n, h⟩
theorem figI_le (c : UInt8) : -1 ≤ figI c ∧ figI c ≤ 15 := by
  unfold figI
  split
  · omega
  · split <;> omega
def escB (c : UInt8) : List UInt8 := [92, 120, figC (c.toNat / 16), figC (c.toNat % 16)]

/-- Must a byte (that no rune begins with: bad) be told by its figures? -/
def toEsc (bad : Bool) (c : UInt8) : Bool := bad || decide (c.toNat < 32) || c.toNat == 127
/-- What stands in the quotes for the rune at a place. -/
def q1 (s : ByteArray) (k : Nat) : List UInt8 :=
  if toEsc (badD (Utf8.decode s k).1 (Utf8.decode s k).2) (s.get! k) then escB (s.get! k)
  else if (s.get! k).toNat = 34 ∨ (s.get! k).toNat = 92 then [92, s.get! k] else ((bl s).drop k).take (Utf8.decode s k).2
def bqF (s : ByteArray) : Nat → Nat → List UInt8
  | 0, _ => []
  | f + 1, i => if i < s.size then q1 s i ++ bqF s f (i + (Utf8.decode s i).2) else []
theorem bqF_end (s : ByteArray) (f i : Nat) (h : s.size ≤ i) : bqF s f i = [] := by
  cases f with
  | zero => rfl
  | succ f => rw [bqF, if_neg (by omega)]
theorem bqF_fuel (s : ByteArray) : ∀ (f i : Nat), s.size - i ≤ f → bqF s f i = bqF s (s.size - i) i
  | 0, i, h => by rw [show s.size - i = 0 by omega]
  | f + 1, i, h => by
    by_cases hi : i < s.size
    · obtain ⟨r, d, hD, hd, _⟩ := decode_some s i hi
      have e : s.size - i = (s.size - i - 1) + 1 := by omega
      rw [e, bqF, bqF, if_pos hi, if_pos hi, hD]
      simp only
      rw [bqF_fuel s f (i + d) (by omega)]
      by_cases h1 : i + d < s.size
      · rw [← bqF_fuel s (s.size - i - 1) (i + d) (by omega)]
      · rw [bqF_end s _ _ (by omega), bqF_end s _ _ (by omega)]
    · rw [bqF_end s _ _ (by omega), bqF_end s _ _ (by omega)]
  termination_by f _ => f
/-- What stands in the quotes from a place on. -/
def bq (s : ByteArray) (k : Nat) : List UInt8 := bqF s (s.size - k) k
theorem bq_step (s : ByteArray) (k : Nat) (h : k < s.size) {r d : Nat} (hD : Utf8.decode s k = (r, d)) (hd : 1 ≤ d) : bq s k = q1 s k ++ bq s (k + d) := by
  unfold bq
  have e : s.size - k = (s.size - k - 1) + 1 := by omega
  rw [e, bqF, if_pos h, hD]
  simp only
  by_cases h1 : k + d < s.size
  · rw [bqF_fuel s (s.size - k - 1) (k + d) (by omega)]
  · rw [bqF_end s _ _ (by omega), bqF_end s _ _ (by omega)]
theorem bq_end (s : ByteArray) (k : Nat) (h : s.size ≤ k) : bq s k = [] := bqF_end s _ _ h
/-- A text in quotes. -/
def quoteP (s : ByteArray) : List UInt8 := 34 :: (bq s 0 ++ [34])

/-- The three forms of a piece, and the bytes that it stands for. -/
def Piece (p b : List UInt8) : Prop := (∃ c : UInt8, p = escB c ∧ b = [c]) ∨ (∃ c : UInt8, (c = 34 ∨ c = 92) ∧ p = [92, c] ∧ b = [c]) ∨ (p = b ∧ ∀ c ∈ p, c ≠ 34 ∧ c ≠ 92)
theorem nat_u8 (c : UInt8) (n : Nat) (h : c.toNat = n) : c = UInt8.ofNat n := by rw [← h]; exact (UInt8.ofNat_toNat).symm
theorem q1_piece (s : ByteArray) (k : Nat) (hk : k < s.size) {r d : Nat} (hD : Utf8.decode s k = (r, d)) (hd : 1 ≤ d) : Piece (q1 s k) (((bl s).drop k).take d) := by
  have hg := get!_eq s k hk
  obtain ⟨r', d', hD', _, _, hc⟩ := decode_some s k hk
  rw [hD] at hD'
  injection hD' with e1 e2
  subst e1 e2
  obtain ⟨h1, h2⟩ := rune_tail s k hk hD
  have hbd := bl_drop s k hk
  unfold q1
  rw [hD, hg]
  dsimp only
  split
  · rename_i h
    have hd1 : d = 1 := by
      rcases hc with ⟨_, _, h⟩ | ⟨h3, h4⟩
      · exact h
      · simp only [toEsc, badD, Bool.or_eq_true, decide_eq_true_eq, beq_iff_eq] at h
        omega
    subst hd1
    exact .inl ⟨s[k], rfl, by rw [hbd]; rfl⟩
  · split
    · rename_i h
      have hd1 : d = 1 := by
        rcases hc with ⟨_, _, h⟩ | ⟨h3, h4⟩
        · exact h
        · omega
      subst hd1
      exact .inr (.inl ⟨s[k], by rcases h with h | h; exact .inl (nat_u8 _ _ h); exact .inr (nat_u8 _ _ h), rfl, by rw [hbd]; rfl⟩)
    · rename_i h
      refine .inr (.inr ⟨rfl, fun c hc => ?_⟩)
      obtain ⟨j, hj, rfl⟩ := List.mem_iff_getElem.1 hc
      rw [List.length_take, List.length_drop, bl_length] at hj
      rw [List.getElem_take, List.getElem_drop, bl_get s _ (by omega)]
      by_cases h0 : j = 0
      · subst h0
        exact ⟨fun e => h (.inl (by have e' : s[k] = 34 := e; rw [e']; rfl)), fun e => h (.inr (by have e' : s[k] = 92 := e; rw [e']; rfl))⟩
      · have := h2 (k + j) (by omega) (by omega) (by omega)
        exact ⟨fun e => by rw [e] at this; simp at this, fun e => by rw [e] at this; simp at this⟩

/-- Back: what stands in the quotes, told. -/
def backF : Nat → List UInt8 → List UInt8
  | 0, _ => []
  | _ + 1, [] => []
  | f + 1, c :: r => if c ≠ 92 then c :: backF f r
    else if 3 ≤ r.length ∧ r.getD 0 0 = 120 ∧ 0 ≤ figI (r.getD 1 0) ∧ 0 ≤ figI (r.getD 2 0) then UInt8.ofNat (16 * figI (r.getD 1 0) + figI (r.getD 2 0)).toNat :: backF f (r.drop 3)
    else if 1 ≤ r.length then r.getD 0 0 :: backF f (r.drop 1) else []
theorem backF_fuel : ∀ (f g : Nat) (l : List UInt8), l.length ≤ f → l.length ≤ g → backF f l = backF g l
  | 0, 0, _, _, _ => rfl
  | 0, g + 1, l, h, _ => by
    have : l = [] := List.eq_nil_of_length_eq_zero (by omega)
    subst this
    rfl
  | f + 1, 0, l, _, h => by
    have : l = [] := List.eq_nil_of_length_eq_zero (by omega)
    subst this
    rfl
  | f + 1, g + 1, [], _, _ => rfl
  | f + 1, g + 1, c :: r, h1, h2 => by
    simp only [List.length_cons] at h1 h2
    simp only [backF]
    rw [backF_fuel f g r (by omega) (by omega), backF_fuel f g (r.drop 3) (by rw [List.length_drop]; omega) (by rw [List.length_drop]; omega), backF_fuel f g (r.drop 1) (by rw [List.length_drop]; omega) (by rw [List.length_drop]; omega)]
def backP (l : List UInt8) : List UInt8 := backF l.length l
theorem backP_nil : backP [] = [] := rfl
theorem backP_cons (c : UInt8) (r : List UInt8) : backP (c :: r) = if c ≠ 92 then c :: backP r
    else if 3 ≤ r.length ∧ r.getD 0 0 = 120 ∧ 0 ≤ figI (r.getD 1 0) ∧ 0 ≤ figI (r.getD 2 0) then UInt8.ofNat (16 * figI (r.getD 1 0) + figI (r.getD 2 0)).toNat :: backP (r.drop 3)
    else if 1 ≤ r.length then r.getD 0 0 :: backP (r.drop 1) else [] := by
  unfold backP
  rw [List.length_cons]
  simp only [backF]
  rw [backF_fuel r.length (r.drop 3).length (r.drop 3) (by rw [List.length_drop]; omega) (Nat.le_refl _), backF_fuel r.length (r.drop 1).length (r.drop 1) (by rw [List.length_drop]; omega) (Nat.le_refl _)]
theorem byte_back (c : UInt8) : UInt8.ofNat (16 * figI (figC (c.toNat / 16)) + figI (figC (c.toNat % 16))).toNat = c := by
  have := c.toNat_lt
  rw [figI_of _ (by omega), figI_of _ (by omega)]
  apply UInt8.toNat_inj.1
  rw [UInt8.toNat_ofNat']
  omega
theorem backP_piece {p b : List UInt8} (h : Piece p b) (t : List UInt8) : backP (p ++ t) = b ++ backP t := by
  rcases h with ⟨c, rfl, rfl⟩ | ⟨c, hc, rfl, rfl⟩ | ⟨rfl, h⟩
  · have hf1 := figI_of (c.toNat / 16) (by have := c.toNat_lt; omega)
    have hf2 := figI_of (c.toNat % 16) (by omega)
    show backP (92 :: (120 :: figC (c.toNat / 16) :: figC (c.toNat % 16) :: t)) = _
    rw [backP_cons, if_neg (by simp), if_pos (by simp [hf1, hf2]; omega)]
    simp only [List.getD_cons_succ, List.getD_cons_zero, List.drop_succ_cons, List.drop_zero]
    rw [byte_back]
    rfl
  · show backP (92 :: (c :: t)) = _
    rw [backP_cons, if_neg (by simp), if_neg (by
      rintro ⟨_, h2, _⟩
      rw [List.getD_cons_zero] at h2
      subst h2
      rcases hc with hc | hc <;> simp at hc), if_pos (by simp)]
    rfl
  · induction p with
    | nil => rfl
    | cons c p ih =>
      rw [List.cons_append, backP_cons, if_pos (h c (List.mem_cons_self ..)).2, ih fun x hx => h x (List.mem_cons_of_mem _ hx)]
      rfl
theorem backP_bq (s : ByteArray) : ∀ (m k : Nat), s.size - k ≤ m → backP (bq s k) = (bl s).drop k
  | 0, k, h => by rw [bq_end s k (by omega), List.drop_of_length_le (by rw [bl_length]; omega)]; rfl
  | m + 1, k, h => by
    by_cases hk : k < s.size
    · obtain ⟨r, d, hD, hd, _⟩ := decode_some s k hk
      rw [bq_step s k hk hD hd, backP_piece (q1_piece s k hk hD hd), backP_bq s m (k + d) (by omega), ← List.drop_drop, List.take_append_drop]
    · rw [bq_end s k (by omega), List.drop_of_length_le (by rw [bl_length]; omega)]; rfl

/-- The document's way back: up to the quote that ends it. -/
def refF : Nat → List UInt8 → Option (List UInt8)
  | 0, _ => none
  | _ + 1, [] => none
  | f + 1, c :: r => if c = 34 then some [] else if c ≠ 92 then (refF f r).map (c :: ·) else if r.length < 1 then none
    else if r.getD 0 0 ≠ 120 then (refF f (r.drop 1)).map (r.getD 0 0 :: ·)
    else if r.length < 3 ∨ figI (r.getD 1 0) < 0 ∨ figI (r.getD 2 0) < 0 then none
    else (refF f (r.drop 3)).map (UInt8.ofNat (16 * figI (r.getD 1 0) + figI (r.getD 2 0)).toNat :: ·)
theorem refF_fuel : ∀ (f g : Nat) (l : List UInt8), l.length ≤ f → l.length ≤ g → refF f l = refF g l
  | 0, 0, _, _, _ => rfl
  | 0, g + 1, l, h, _ => by
    have : l = [] := List.eq_nil_of_length_eq_zero (by omega)
    subst this
    rfl
  | f + 1, 0, l, _, h => by
    have : l = [] := List.eq_nil_of_length_eq_zero (by omega)
    subst this
    rfl
  | f + 1, g + 1, [], _, _ => rfl
  | f + 1, g + 1, c :: r, h1, h2 => by
    simp only [List.length_cons] at h1 h2
    simp only [refF]
    rw [refF_fuel f g r (by omega) (by omega), refF_fuel f g (r.drop 3) (by rw [List.length_drop]; omega) (by rw [List.length_drop]; omega), refF_fuel f g (r.drop 1) (by rw [List.length_drop]; omega) (by rw [List.length_drop]; omega)]
def refP (l : List UInt8) : Option (List UInt8) := refF l.length l
theorem refP_nil : refP [] = none := rfl
theorem refP_cons (c : UInt8) (r : List UInt8) : refP (c :: r) = if c = 34 then some [] else if c ≠ 92 then (refP r).map (c :: ·) else if r.length < 1 then none
    else if r.getD 0 0 ≠ 120 then (refP (r.drop 1)).map (r.getD 0 0 :: ·)
    else if r.length < 3 ∨ figI (r.getD 1 0) < 0 ∨ figI (r.getD 2 0) < 0 then none
    else (refP (r.drop 3)).map (UInt8.ofNat (16 * figI (r.getD 1 0) + figI (r.getD 2 0)).toNat :: ·) := by
  unfold refP
  rw [List.length_cons]
  simp only [refF]
  rw [refF_fuel r.length (r.drop 3).length (r.drop 3) (by rw [List.length_drop]; omega) (Nat.le_refl _), refF_fuel r.length (r.drop 1).length (r.drop 1) (by rw [List.length_drop]; omega) (Nat.le_refl _)]
theorem map_app (b : List UInt8) (o : Option (List UInt8)) (c : UInt8) : (o.map (b ++ ·)).map (c :: ·) = o.map ((c :: b) ++ ·) := by cases o <;> rfl
theorem refP_piece {p b : List UInt8} (h : Piece p b) (t : List UInt8) : refP (p ++ t) = (refP t).map (b ++ ·) := by
  rcases h with ⟨c, rfl, rfl⟩ | ⟨c, hc, rfl, rfl⟩ | ⟨rfl, h⟩
  · have hf1 := figI_of (c.toNat / 16) (by have := c.toNat_lt; omega)
    have hf2 := figI_of (c.toNat % 16) (by omega)
    show refP (92 :: (120 :: figC (c.toNat / 16) :: figC (c.toNat % 16) :: t)) = _
    rw [refP_cons, if_neg (by simp), if_neg (by simp), if_neg (by simp), if_neg (by simp), if_neg (by simp [hf1, hf2]; omega)]
    simp only [List.getD_cons_succ, List.getD_cons_zero, List.drop_succ_cons, List.drop_zero]
    rw [byte_back]
    cases refP t <;> rfl
  · show refP (92 :: (c :: t)) = _
    rw [refP_cons, if_neg (by simp), if_neg (by simp), if_neg (by simp), if_pos (by
      intro h2
      rw [List.getD_cons_zero] at h2
      subst h2
      rcases hc with hc | hc <;> simp at hc)]
    simp only [List.getD_cons_zero, List.drop_succ_cons, List.drop_zero]
    cases refP t <;> rfl
  · induction p with
    | nil => cases h : refP t <;> simp [h]
    | cons c p ih =>
      have hc := h c (List.mem_cons_self ..)
      rw [List.cons_append, refP_cons, if_neg hc.1, if_pos hc.2, ih fun x hx => h x (List.mem_cons_of_mem _ hx), map_app]
theorem refP_bq (s : ByteArray) : ∀ (m k : Nat), s.size - k ≤ m → refP (bq s k ++ [34]) = some ((bl s).drop k)
  | 0, k, h => by rw [bq_end s k (by omega), List.drop_of_length_le (by rw [bl_length]; omega)]; rfl
  | m + 1, k, h => by
    by_cases hk : k < s.size
    · obtain ⟨r, d, hD, hd, _⟩ := decode_some s k hk
      rw [bq_step s k hk hD hd, List.append_assoc, refP_piece (q1_piece s k hk hD hd), refP_bq s m (k + d) (by omega), Option.map_some, ← List.drop_drop, List.take_append_drop]
    · rw [bq_end s k (by omega), List.drop_of_length_le (by rw [bl_length]; omega)]; rfl

/-- In a line what stands in quotes is one word. -/
theorem wend_piece {p b : List UInt8} (h : Piece p b) (t : List UInt8) (i : Nat) : wend true false i (p ++ t) = wend true false (i + p.length) t := by
  have hfig : ∀ n, figC n ≠ 92 ∧ figC n ≠ 34 ∨ 16 ≤ n := by
    intro n
    rcases Nat.lt_or_ge n 16 with hn | hn
    · left
      have : ∀ n : Fin 16, figC n.val ≠ 92 ∧ figC n.val ≠ 34 := by decide +kernel
      exact this ⟨n, hn⟩
    · exact .inr hn
  have plain : ∀ (l : List UInt8) (t : List UInt8) (i : Nat), (∀ c ∈ l, c ≠ 34 ∧ c ≠ 92) → wend true false i (l ++ t) = wend true false (i + l.length) t := by
    intro l
    induction l with
    | nil => intro t i _; rfl
    | cons c l ih =>
      intro t i hl
      have hc := hl c (List.mem_cons_self ..)
      rw [List.cons_append, wend_cons, if_neg (fun h => hc.2 h.2), if_neg (fun h => hc.1 h.2), if_neg (by simp), ih t (i + 1) (fun x hx => hl x (List.mem_cons_of_mem _ hx)), List.length_cons, show i + 1 + l.length = i + (l.length + 1) by omega]
  rcases h with ⟨c, rfl, rfl⟩ | ⟨c, hc, rfl, rfl⟩ | ⟨rfl, h⟩
  · have h1 := hfig (c.toNat / 16)
    have h2 := hfig (c.toNat % 16)
    have := c.toNat_lt
    show wend true false i (92 :: (120 :: ([figC (c.toNat / 16), figC (c.toNat % 16)] ++ t))) = _
    rw [wend_cons, if_pos ⟨rfl, rfl⟩, wend_esc, plain [figC (c.toNat / 16), figC (c.toNat % 16)] t (i + 1 + 1) (by
      intro x hx
      simp only [List.mem_cons, List.mem_nil_iff, or_false] at hx
      rcases hx with rfl | rfl
      · rcases h1 with h1 | h1
        · exact ⟨h1.2, h1.1⟩
        · omega
      · rcases h2 with h2 | h2
        · exact ⟨h2.2, h2.1⟩
        · omega)]
    rfl
  · show wend true false i (92 :: (c :: t)) = _
    rw [wend_cons, if_pos ⟨rfl, rfl⟩, wend_esc]
    rfl
  · exact plain p t i h
theorem wend_bq (s : ByteArray) (t : List UInt8) : ∀ (m k i : Nat), s.size - k ≤ m → wend true false i (bq s k ++ t) = wend true false (i + (bq s k).length) t
  | 0, k, i, h => by rw [bq_end s k (by omega)]; rfl
  | m + 1, k, i, h => by
    by_cases hk : k < s.size
    · obtain ⟨r, d, hD, hd, _⟩ := decode_some s k hk
      rw [bq_step s k hk hD hd, List.append_assoc, wend_piece (q1_piece s k hk hD hd), wend_bq s t m (k + d) _ (by omega), List.length_append, Nat.add_assoc]
    · rw [bq_end s k (by omega)]; rfl
end Go.Proofs.YtimmfcbpdnlfjaaDoor
