/- Plain: readers of bytes put together: what is read is what was put, and what was put is read. No program is named here, and nothing is assumed. Plain: readers of stamps; facts on readers in use. No program is named here, and nothing is assumed. -/
import Derived.Test.YthbhbechemnidaaDoorPlainC
import Derived.Test.YthbhbechemnidaaDoorWireB
import Derived.Test.YthbhbechemnidaaDoorVerB
namespace Go.Proofs.YthbhbechemnidaaDoor

/-- A reader: from bytes, a place in them and a fault so far: what is read, the place behind it, the fault. -/
def Prs (α : Type) : Type := List UInt8 → Nat → Int → α × Nat × Int

def pNum : Prs Int := fun L k why => (((rNum (L.drop k) why).1 : Int), k + (rNum (L.drop k) why).2.1, (rNum (L.drop k) why).2.2)
def pCnt (most : Int) : Prs Int := fun L k why => (((rCount (L.drop k) most why).1 : Int), k + (rCount (L.drop k) most why).2.1, (rCount (L.drop k) most why).2.2)
def pTxt (most : Int) : Prs (List UInt8) := fun L k why => ((rText (L.drop k) most why).1, k + (rText (L.drop k) most why).2.1, (rText (L.drop k) most why).2.2)

section
variable {α β : Type}
def pPure (a : α) : Prs α := fun _ k why => (a, k, why)
def pThen (p : Prs α) (g : α → Prs β) : Prs β := fun L k why => g (p L k why).1 L (p L k why).2.1 (p L k why).2.2
theorem pThen_eq {p : Prs α} {g : α → Prs β} {L : List UInt8} {k k' : Nat} {why why' : Int} {a : α} (h : p L k why = (a, k', why')) : pThen p g L k why = g a L k' why' := by unfold pThen; rw [h]
def pRep (p : Prs α) : Nat → Prs (List α)
  | 0 => pPure []
  | n + 1 => pThen p fun a => pThen (pRep p n) fun l => pPure (a :: l)

/-- The place goes on, within the bytes. -/
def Going (p : Prs α) : Prop := ∀ (L : List UInt8) (k : Nat) (why : Int), k ≤ L.length → k ≤ (p L k why).2.1 ∧ (p L k why).2.1 ≤ L.length
/-- What is read without a fault was put. -/
def Sound (p : Prs α) (f : α → List UInt8) (Q : α → Prop) : Prop := ∀ (L : List UInt8) (k : Nat) (why : Int), k ≤ L.length → (p L k why).2.2 = 0 →
  why = 0 ∧ L.take (p L k why).2.1 = L.take k ++ f (p L k why).1 ∧ Q (p L k why).1
/-- What was put is read. -/
def Whole (p : Prs α) (x : α) (b : List UInt8) : Prop := ∀ pre r : List UInt8, p (pre ++ (b ++ r)) pre.length 0 = (x, pre.length + b.length, 0)
/-- A fault stays. -/
def Stays (p : Prs α) : Prop := ∀ (L : List UInt8) (k : Nat) (why : Int), why ≠ 0 → (p L k why).2.2 = why

theorem going_pure (a : α) : Going (pPure a) := fun _ _ _ h => ⟨Nat.le_refl _, h⟩
theorem going_then {p : Prs α} {g : α → Prs β} (h : Going p) (hg : ∀ a, Going (g a)) : Going (pThen p g) := fun L k why hk => by
  obtain ⟨h1, h2⟩ := h L k why hk
  obtain ⟨h3, h4⟩ := hg (p L k why).1 L (p L k why).2.1 (p L k why).2.2 h2
  exact ⟨Nat.le_trans h1 h3, h4⟩
theorem going_rep {p : Prs α} (h : Going p) : ∀ n, Going (pRep p n)
  | 0 => going_pure []
  | n + 1 => going_then h fun _ => going_then (going_rep h n) fun _ => going_pure _
theorem stays_pure (a : α) : Stays (pPure a) := fun _ _ _ _ => rfl
theorem stays_then {p : Prs α} {g : α → Prs β} (h : Stays p) (hg : ∀ a, Stays (g a)) : Stays (pThen p g) := fun L k why hw => by
  have h1 := h L k why hw
  unfold pThen
  rw [h1]
  exact hg _ _ _ _ hw
theorem stays_rep {p : Prs α} (h : Stays p) : ∀ n, Stays (pRep p n)
  | 0 => stays_pure []
  | n + 1 => stays_then h fun _ => stays_then (stays_rep h n) fun _ => stays_pure _

theorem sound_pure (a : α) : Sound (pPure a) (fun _ => []) (fun x => x = a) := fun L k why _ h => ⟨h, by simp [pPure], rfl⟩
theorem sound_then {p : Prs α} {g : α → Prs β} {f : α → List UInt8} {Q : α → Prop} {G : α → β → List UInt8} {S : α → β → Prop} {F : β → List UInt8} {R : β → Prop}
    (hgo : Going p) (h : Sound p f Q) (hg : ∀ a, Sound (g a) (G a) (S a)) (hF : ∀ a b, Q a → S a b → F b = f a ++ G a b ∧ R b) : Sound (pThen p g) F R := fun L k why hk h0 => by
  have h2 := (hgo L k why hk).2
  obtain ⟨e1, e2, e3⟩ := hg (p L k why).1 L (p L k why).2.1 (p L k why).2.2 h2 h0
  obtain ⟨i1, i2, i3⟩ := h L k why hk e1
  obtain ⟨j1, j2⟩ := hF _ _ i3 e3
  refine ⟨i1, ?_, j2⟩
  show L.take (g (p L k why).1 L (p L k why).2.1 (p L k why).2.2).2.1 = L.take k ++ F (g (p L k why).1 L (p L k why).2.1 (p L k why).2.2).1
  rw [e2, i2, j1, List.append_assoc]
theorem sound_mono {p : Prs α} {f f' : α → List UInt8} {Q Q' : α → Prop} (h : Sound p f Q) (hf : ∀ x, Q x → f x = f' x ∧ Q' x) : Sound p f' Q' := fun L k why hk h0 => by
  obtain ⟨e1, e2, e3⟩ := h L k why hk h0
  obtain ⟨j1, j2⟩ := hf _ e3
  exact ⟨e1, by rw [e2, j1], j2⟩
theorem sound_rep {p : Prs α} {f : α → List UInt8} {Q : α → Prop} (hgo : Going p) (h : Sound p f Q) : ∀ n, Sound (pRep p n) (fun l => l.flatMap f) (fun l => l.length = n ∧ ∀ x ∈ l, Q x)
  | 0 => sound_mono (sound_pure []) fun x hx => by subst hx; simp
  | n + 1 => sound_then (G := fun a b => b.tail.flatMap f) (S := fun a b => ∃ l, b = a :: l ∧ l.length = n ∧ ∀ x ∈ l, Q x) hgo h
      (fun a => sound_then (G := fun _ _ => []) (S := fun l b => b = a :: l) (going_rep hgo n) (sound_rep hgo h n) (fun l => sound_mono (sound_pure _) fun _ hx => ⟨rfl, hx⟩) (fun l b hl hb => by
        subst hb
        exact ⟨by simp, l, rfl, hl⟩))
      (fun a b ha hb => by
        obtain ⟨l, rfl, h1, h2⟩ := hb
        refine ⟨by simp, by simp [h1], fun x hx => ?_⟩
        rcases List.mem_cons.1 hx with rfl | hx
        · exact ha
        · exact h2 x hx)

theorem whole_pure (a : α) : Whole (pPure a) a [] := fun pre r => by simp [pPure]
theorem whole_then {p : Prs α} {g : α → Prs β} {a : α} {b : β} {u v : List UInt8} (h : Whole p a u) (hg : Whole (g a) b v) : Whole (pThen p g) b (u ++ v) := fun pre r => by
  have h1 := h pre (v ++ r)
  have e : pre ++ (u ++ (v ++ r)) = (pre ++ u) ++ (v ++ r) := by simp
  have h2 := hg (pre ++ u) r
  rw [← e] at h2
  rw [List.append_assoc, pThen_eq h1, ← List.length_append, h2]
  simp only [List.length_append, Nat.add_assoc]
theorem whole_rep {p : Prs α} {f : α → List UInt8} {Q : α → Prop} (h : ∀ x, Q x → Whole p x (f x)) : ∀ l : List α, (∀ x ∈ l, Q x) → Whole (pRep p l.length) l (l.flatMap f)
  | [], _ => whole_pure []
  | a :: l, hl => by
    have h1 := h a (hl a (List.mem_cons_self ..))
    have h2 := whole_rep h l fun x hx => hl x (List.mem_cons_of_mem _ hx)
    have h3 := whole_then (p := p) (g := fun a => pThen (pRep p l.length) fun l => pPure (a :: l)) h1 (whole_then (p := pRep p l.length) (g := fun l => pPure (a :: l)) h2 (whole_pure (a :: l)))
    rw [List.append_nil] at h3
    exact h3
end

theorem going_num : Going pNum := fun L k why hk => by
  have := (rNum_facts (L.drop k) why).2.1
  rw [List.length_drop] at this
  unfold pNum
  exact ⟨Nat.le_add_right _ _, by dsimp only; omega⟩
theorem rCount_le (l : List UInt8) (most why : Int) : (rCount l most why).2.1 ≤ l.length := by
  have := (rNum_facts l why).2.1
  unfold rCount
  split
  · exact Nat.zero_le _
  · exact this
theorem rText_le (l : List UInt8) (most why : Int) : (rText l most why).2.1 ≤ l.length := by
  have := (rNum_facts l why).2.1
  unfold rText
  split
  · exact Nat.zero_le _
  · split
    · exact Nat.zero_le _
    · split
      · exact Nat.zero_le _
      · dsimp only; omega
theorem going_cnt (most : Int) : Going (pCnt most) := fun L k why hk => by
  have := rCount_le (L.drop k) most why
  rw [List.length_drop] at this
  unfold pCnt
  exact ⟨Nat.le_add_right _ _, by dsimp only; omega⟩
theorem going_txt (most : Int) : Going (pTxt most) := fun L k why hk => by
  have := rText_le (L.drop k) most why
  rw [List.length_drop] at this
  unfold pTxt
  exact ⟨Nat.le_add_right _ _, by dsimp only; omega⟩
theorem rNum_stays (l : List UInt8) (why : Int) (h : why ≠ 0) : rNum l why = (0, 0, why) := by unfold rNum; rw [if_neg h]
theorem stays_num : Stays pNum := fun L k why hw => by unfold pNum; rw [rNum_stays _ _ hw]
theorem stays_cnt (most : Int) : Stays (pCnt most) := fun L k why hw => by
  unfold pCnt rCount
  rw [rNum_stays _ _ hw, if_neg (fun h => hw h.1)]
theorem stays_txt (most : Int) : Stays (pTxt most) := fun L k why hw => by
  unfold pTxt rText
  rw [rNum_stays _ _ hw, if_pos hw]

theorem num_bounds (L : List UInt8) (k : Nat) (why : Int) : 0 ≤ (pNum L k why).1 ∧ (pNum L k why).1 < 4611686018427387904 := by
  have := (rNum_facts (L.drop k) why).1
  unfold pNum
  dsimp only
  omega
theorem cnt_bounds (most : Int) (hm : 0 ≤ most) (L : List UInt8) (k : Nat) (why : Int) : 0 ≤ (pCnt most L k why).1 ∧ (pCnt most L k why).1 ≤ most := by
  have h1 := rNum_facts (L.drop k) why
  unfold pCnt rCount
  split
  · exact ⟨by simp, by simpa using hm⟩
  · rename_i h
    dsimp only
    by_cases h0 : (rNum (L.drop k) why).2.2 = 0
    · have : ¬ most < ((rNum (L.drop k) why).1 : Int) := fun h9 => h ⟨h0, h9⟩
      omega
    · have := (h1.2.2 h0).1
      omega
theorem sound_num : Sound pNum wputI (fun x => 0 ≤ x ∧ x < 4611686018427387904) := fun L k why hk h0 => by
  have hb := num_bounds L k why
  refine ⟨?_, ?_, hb⟩
  · exact (rNum_zero h0).1
  · obtain ⟨v, m, e, hq⟩ : ∃ v m e, rNum (L.drop k) why = (v, m, e) := ⟨_, _, _, rfl⟩
    have h0' : e = 0 := by
      have h9 : (rNum (L.drop k) why).2.2 = 0 := h0
      rw [hq] at h9
      exact h9
    subst h0'
    have h1 := (rNum_zero (l := L.drop k) (why := why) (by rw [hq])).2
    rw [hq] at h1
    obtain ⟨_, h2⟩ := rnum_take h1
    unfold pNum
    rw [hq]
    dsimp only
    rw [List.take_add, h2]
    rfl
theorem sound_cnt (most : Int) : Sound (pCnt most) wputI (fun x => 0 ≤ x ∧ x ≤ most ∧ x < 4611686018427387904) := fun L k why hk h0 => by
  obtain ⟨hw, h1, h2⟩ := rCount_zero (show (rCount (L.drop k) most why).2.2 = 0 from h0)
  obtain ⟨v, m, e, hq⟩ : ∃ v m e, rCount (L.drop k) most why = (v, m, e) := ⟨_, _, _, rfl⟩
  have h0' : e = 0 := by
    have h9 : (rCount (L.drop k) most why).2.2 = 0 := h0
    rw [hq] at h9
    exact h9
  subst h0'
  rw [hq] at h1 h2
  obtain ⟨h4, h3⟩ := rnum_take h1
  have hb := (rNum_facts (L.drop k) 0).1
  unfold rNum at hb
  rw [if_pos rfl, h1] at hb
  dsimp only at hb
  refine ⟨hw, ?_, ?_⟩
  · unfold pCnt
    rw [hq]
    dsimp only
    rw [List.take_add, h3]
    rfl
  · unfold pCnt
    rw [hq]
    dsimp only at h2 ⊢
    omega
theorem sound_txt (most : Int) : Sound (pTxt most) wtext (fun l => (l.length : Int) ≤ most) := fun L k why hk h0 => by
  have h0' : (rText (L.drop k) most why).2.2 = 0 := h0
  obtain ⟨v, m, e, hq⟩ : ∃ v m e, rNum (L.drop k) why = (v, m, e) := ⟨_, _, _, rfl⟩
  unfold rText at h0'
  rw [hq] at h0'
  dsimp only at h0'
  by_cases he : e = 0
  · subst he
    rw [if_neg (by simp)] at h0'
    by_cases hm : most < (v : Int)
    · rw [if_pos hm] at h0'; simp at h0'
    rw [if_neg hm] at h0'
    by_cases hl : (L.drop k).length - m < v
    · rw [if_pos hl] at h0'; simp at h0'
    rw [if_neg hl] at h0'
    have h1 := rNum_zero (l := L.drop k) (why := why) (by rw [hq])
    rw [hq] at h1
    obtain ⟨_, h3⟩ := rnum_take h1.2
    have e1 : rText (L.drop k) most why = (((L.drop k).drop m).take v, m + v, 0) := by
      unfold rText
      rw [hq, if_neg (by simp), if_neg hm, if_neg hl]
    have hlen : (((L.drop k).drop m).take v).length = v := by rw [List.length_take, List.length_drop]; omega
    unfold pTxt
    rw [e1]
    dsimp only
    refine ⟨h1.1, ?_, by rw [hlen]; omega⟩
    unfold wtext
    rw [hlen, List.take_add, List.take_add, h3]
  · rw [if_pos he] at h0'
    exact absurd h0' he
theorem whole_num (x : Int) (h0 : 0 ≤ x) (h : x < 4611686018427387904) : Whole pNum x (wputI x) := fun pre r => by
  unfold pNum
  rw [List.drop_left]
  have := rNum_wput x.toNat r (by omega)
  unfold wputI
  rw [this]
  dsimp only
  rw [Int.toNat_of_nonneg h0]
theorem whole_cnt (most x : Int) (h0 : 0 ≤ x) (h : x < 4611686018427387904) (hm : x ≤ most) : Whole (pCnt most) x (wputI x) := fun pre r => by
  unfold pCnt rCount
  rw [List.drop_left]
  have := rNum_wput x.toNat r (by omega)
  unfold wputI
  rw [this, if_neg (by dsimp only; omega)]
  dsimp only
  rw [Int.toNat_of_nonneg h0]
theorem whole_txt (most : Int) (l : List UInt8) (h : l.length < 4611686018427387904) (hm : (l.length : Int) ≤ most) : Whole (pTxt most) l (wtext l) := fun pre r => by
  unfold pTxt
  rw [List.drop_left]
  unfold wtext
  rw [List.append_assoc, rText_put l r most h hm]
  simp
end Go.Proofs.YthbhbechemnidaaDoor

namespace Go.Proofs.YthbhbechemnidaaDoor

theorem Sound.use {α : Type} {p : Prs α} {f : α → List UInt8} {Q : α → Prop} (h : Sound p f Q) {L : List UInt8} {k k' : Nat} {y y' : Int} {a : α} (e : p L k y = (a, k', y')) (hk : k ≤ L.length) (h0 : y' = 0) : y = 0 ∧ L.take k' = L.take k ++ f a ∧ Q a := by
  have := h L k y hk (by rw [e]; exact h0)
  rw [e] at this
  exact this
theorem Going.use {α : Type} {p : Prs α} (h : Going p) {L : List UInt8} {k k' : Nat} {y y' : Int} {a : α} (e : p L k y = (a, k', y')) (hk : k ≤ L.length) : k ≤ k' ∧ k' ≤ L.length := by
  have := h L k y hk
  rw [e] at this
  exact this
theorem Stays.use {α : Type} {p : Prs α} (h : Stays p) {L : List UInt8} {k k' : Nat} {y y' : Int} {a : α} (e : p L k y = (a, k', y')) (hy : y ≠ 0) : y' = y := by
  have := h L k y hy
  rw [e] at this
  exact this

/-- A stamp, as read. -/
def pSt : Prs (Int × Int × Int) := pThen pNum fun a => pThen pNum fun b => pThen pNum fun c => pPure (a, b, c)
theorem pSt_eq {L : List UInt8} {k k1 k2 k3 : Nat} {y y1 y2 y3 a b c : Int} (h1 : pNum L k y = (a, k1, y1)) (h2 : pNum L k1 y1 = (b, k2, y2)) (h3 : pNum L k2 y2 = (c, k3, y3)) : pSt L k y = ((a, b, c), k3, y3) := by
  unfold pSt
  rw [pThen_eq h1, pThen_eq h2, pThen_eq h3]
  rfl
theorem going_st : Going pSt := going_then going_num fun _ => going_then going_num fun _ => going_then going_num fun _ => going_pure _
theorem stays_st : Stays pSt := stays_then stays_num fun _ => stays_then stays_num fun _ => stays_then stays_num fun _ => stays_pure _
def NIn (x : Int) : Prop := 0 ≤ x ∧ x < 4611686018427387904
theorem sound_st : Sound pSt sput (fun s => NIn s.1 ∧ NIn s.2.1 ∧ NIn s.2.2) := fun L k y hk h0 => by
  obtain ⟨a, k1, y1, h1⟩ : ∃ a k1 y1, pNum L k y = (a, k1, y1) := ⟨_, _, _, rfl⟩
  obtain ⟨b, k2, y2, h2⟩ : ∃ a k1' y1', pNum L k1 y1 = (a, k1', y1') := ⟨_, _, _, rfl⟩
  obtain ⟨c, k3, y3, h3⟩ : ∃ a k1' y1', pNum L k2 y2 = (a, k1', y1') := ⟨_, _, _, rfl⟩
  have e := pSt_eq h1 h2 h3
  rw [e] at h0 ⊢
  have g1 := going_num.use h1 hk
  have g2 := going_num.use h2 g1.2
  obtain ⟨z2, t3, q3⟩ := sound_num.use h3 g2.2 h0
  obtain ⟨z1, t2, q2⟩ := sound_num.use h2 g1.2 z2
  obtain ⟨z0, t1, q1⟩ := sound_num.use h1 hk z1
  refine ⟨z0, ?_, q1, q2, q3⟩
  dsimp only
  rw [t3, t2, t1]
  simp [sput]
theorem whole_st (s : Int × Int × Int) (h : NIn s.1 ∧ NIn s.2.1 ∧ NIn s.2.2) : Whole pSt s (sput s) := by
  have h1 := whole_then (p := pNum) (g := fun a => pThen pNum fun b => pThen pNum fun c => pPure (a, b, c)) (whole_num s.1 h.1.1 h.1.2) (whole_then (p := pNum) (g := fun b => pThen pNum fun c => pPure (s.1, b, c)) (whole_num s.2.1 h.2.1.1 h.2.1.2) (whole_then (p := pNum) (g := fun c => pPure (s.1, s.2.1, c)) (whole_num s.2.2 h.2.2.1 h.2.2.2) (whole_pure _)))
  have e : sput s = wputI s.1 ++ (wputI s.2.1 ++ (wputI s.2.2 ++ [])) := by simp [sput]
  rw [e]
  exact h1
end Go.Proofs.YthbhbechemnidaaDoor
