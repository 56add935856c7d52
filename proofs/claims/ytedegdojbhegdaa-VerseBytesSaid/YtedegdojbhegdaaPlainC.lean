/- Plain: a configuration's bytes, and the configuration that bytes are of. No program is named here. -/
import Derived.Test.YtedegdojbhegdaaPlainH
namespace Go.Proofs.Ytedegdojbhegdaa

def cbit (b : Bool) : Nat := if b then 1 else 0
def cput1 (p : Bool × Int) : List UInt8 := wput (cbit p.1) ++ wputI p.2
def cputs (P : List (Bool × Int)) : List UInt8 := P.flatMap cput1
def cput (e : Int) (P : List (Bool × Int)) : List UInt8 := wputI e ++ cputs P
theorem cputs_snoc (P : List (Bool × Int)) (p : Bool × Int) : cputs (P ++ [p]) = cputs P ++ cput1 p := by simp [cputs]
theorem cput_take_succ (e : Int) (P : List (Bool × Int)) (k : Nat) (hk : k < P.length) : cput e (P.take (k + 1)) = cput e (P.take k) ++ cput1 P[k] := by
  unfold cput
  rw [List.take_succ_eq_append_getElem hk, cputs_snoc, List.append_assoc]

/-- Reading so many pairs: a bit and a number each. -/
def cg : Nat → List UInt8 → Nat → Int → List (Bool × Int) × Nat × Int
  | 0, _, k, why => ([], k, why)
  | n + 1, L, k, why =>
    let a := rCount (L.drop k) 1 why
    let b := rNum (L.drop (k + a.2.1)) a.2.2
    let r := cg n L (k + a.2.1 + b.2.1) b.2.2
    ((decide (a.1 = 1), (b.1 : Int)) :: r.1, r.2)
theorem cg_succ (n : Nat) (L : List UInt8) (k : Nat) (why : Int) {c m : Nat} {e : Int} (ha : rCount (L.drop k) 1 why = (c, m, e)) {v m2 : Nat} {e2 : Int} (hb : rNum (L.drop (k + m)) e = (v, m2, e2)) :
    cg (n + 1) L k why = ((decide (c = 1), (v : Int)) :: (cg n L (k + m + m2) e2).1, (cg n L (k + m + m2) e2).2) := by
  simp only [cg, ha, hb]
theorem cg_len : ∀ (n : Nat) (L : List UInt8) (k : Nat) (why : Int), (cg n L k why).1.length = n
  | 0, _, _, _ => rfl
  | n + 1, L, k, why => by simp only [cg, List.length_cons, cg_len n]

/-- What bytes are read as: the configuration, and the fault. -/
def cgAll (L : List UInt8) : Int × List (Bool × Int) × Int :=
  let a := rNum L 0
  let r := cg 5 L a.2.1 a.2.2
  let why := if r.2.2 = 0 ∧ ¬ ((0 ≤ (a.1 : Int) ∧ (a.1 : Int) ≤ 1099511627776) ∧ ∀ p ∈ r.1, 0 ≤ p.2 ∧ p.2 ≤ (a.1 : Int)) then 31 else r.2.2
  ((a.1 : Int), r.1, if 0 < L.length - r.2.1 ∧ why = 0 then 31 else why)

theorem rNum_zero {l : List UInt8} {why : Int} (h : (rNum l why).2.2 = 0) : why = 0 ∧ rnum l = rNum l why := by
  unfold rNum at h ⊢
  split at h
  · rename_i h0
    rw [if_pos h0]
    exact ⟨h0, rfl⟩
  · exact absurd h (by assumption)
theorem rCount_zero {l : List UInt8} {most why : Int} (h : (rCount l most why).2.2 = 0) : why = 0 ∧ rnum l = rCount l most why ∧ ((rCount l most why).1 : Int) ≤ most := by
  unfold rCount at h ⊢
  split at h
  · simp at h
  · rename_i hc
    rw [if_neg hc]
    obtain ⟨h1, h2⟩ := rNum_zero h
    refine ⟨h1, h2, ?_⟩
    by_cases h3 : most < ((rNum l why).1 : Int)
    · exact absurd ⟨h, h3⟩ hc
    · omega
theorem cg_take : ∀ (n : Nat) (L : List UInt8) (k : Nat) (why : Int), (cg n L k why).2.2 = 0 → k ≤ L.length → why = 0 ∧ k ≤ (cg n L k why).2.1 ∧ (cg n L k why).2.1 ≤ L.length ∧ L.take (cg n L k why).2.1 = L.take k ++ cputs (cg n L k why).1
  | 0, L, k, why, h, hk => by simp [cg, cputs] at h ⊢; exact ⟨h, hk⟩
  | n + 1, L, k, why, h, hk => by
    obtain ⟨c, m, e, ha⟩ : ∃ c m e, rCount (L.drop k) 1 why = (c, m, e) := ⟨_, _, _, rfl⟩
    obtain ⟨v, m2, e2, hb⟩ : ∃ v m2 e2, rNum (L.drop (k + m)) e = (v, m2, e2) := ⟨_, _, _, rfl⟩
    rw [cg_succ n L k why ha hb] at h ⊢
    simp only at h ⊢
    have hm := (rNum_facts (L.drop (k + m)) e).2.1
    rw [hb, List.length_drop] at hm
    have hmk : k + m ≤ L.length := by
      have h1 := (rNum_facts (L.drop k) why).2.1
      rw [List.length_drop] at h1
      unfold rCount at ha
      split at ha
      · simp only [Prod.mk.injEq] at ha; omega
      · rw [ha] at h1; simp only at h1; omega
    simp only at hm
    obtain ⟨he2, i1, i2, i3⟩ := cg_take n L (k + m + m2) e2 h (by omega)
    subst he2
    obtain ⟨he, hb'⟩ := rNum_zero (show (rNum (L.drop (k + m)) e).2.2 = 0 by rw [hb])
    subst he
    rw [hb] at hb'
    obtain ⟨_, tb⟩ := rnum_take hb'
    obtain ⟨hw, ha', hc1⟩ := rCount_zero (show (rCount (L.drop k) 1 why).2.2 = 0 by rw [ha])
    rw [ha] at ha' hc1
    obtain ⟨_, ta⟩ := rnum_take ha'
    refine ⟨hw, by omega, i2, ?_⟩
    simp only at hc1
    rw [i3, List.take_add, List.take_add, ta, tb]
    have hcb : cbit (decide (c = 1)) = c := by
      unfold cbit
      have : c = 0 ∨ c = 1 := by omega
      rcases this with rfl | rfl <;> rfl
    have e0 : cputs ((decide (c = 1), (v : Int)) :: (cg n L (k + m + m2) 0).1) = wput c ++ wputI v ++ cputs (cg n L (k + m + m2) 0).1 := by
      simp [cputs, cput1, hcb]
    rw [e0]
    simp [wputI]
theorem cgAll_take {L : List UInt8} (h : (cgAll L).2.2 = 0) : L = cput (cgAll L).1 (cgAll L).2.1 ∧ (cgAll L).2.1.length = 5 ∧ 0 ≤ (cgAll L).1 ∧ (cgAll L).1 ≤ 1099511627776 ∧ ∀ p ∈ (cgAll L).2.1, 0 ≤ p.2 ∧ p.2 ≤ (cgAll L).1 := by
  unfold cgAll at h ⊢
  obtain ⟨v, m, e, ha⟩ : ∃ v m e, rNum L 0 = (v, m, e) := ⟨_, _, _, rfl⟩
  rw [ha] at h ⊢
  simp only at h ⊢
  have hm := (rNum_facts L 0).2.1
  rw [ha] at hm
  simp only at hm
  split at h
  · simp at h
  · rename_i hc
    split at h
    · simp at h
    · rename_i hl
      have hR : (0 ≤ (v : Int) ∧ (v : Int) ≤ 1099511627776) ∧ ∀ p ∈ (cg 5 L m e).1, 0 ≤ p.2 ∧ p.2 ≤ (v : Int) := by
        by_cases h9 : (0 ≤ (v : Int) ∧ (v : Int) ≤ 1099511627776) ∧ ∀ p ∈ (cg 5 L m e).1, 0 ≤ p.2 ∧ p.2 ≤ (v : Int)
        · exact h9
        · exact absurd ⟨h, h9⟩ hc
      obtain ⟨he, h1, h2, h3⟩ := cg_take 5 L m e h hm
      subst he
      have hlen : (cg 5 L m 0).2.1 = L.length := by
        by_cases h9 : 0 < L.length - (cg 5 L m 0).2.1
        · exact absurd ⟨h9, h⟩ hl
        · omega
      rw [hlen, List.take_length] at h3
      have hrn : rnum L = (v, m, 0) := by rw [← ha]; unfold rNum; rw [if_pos rfl]
      obtain ⟨_, tv⟩ := rnum_take hrn
      refine ⟨?_, cg_len _ _ _ _, hR.1.1, hR.1.2, hR.2⟩
      unfold cput
      conv => lhs; rw [h3, tv]
      rfl

theorem cg_cputs : ∀ (P : List (Bool × Int)) (pre r : List UInt8), (∀ p ∈ P, 0 ≤ p.2 ∧ p.2 < 4611686018427387904) → cg P.length (pre ++ (cputs P ++ r)) pre.length 0 = (P, pre.length + (cputs P).length, 0)
  | [], pre, r, _ => by simp [cg, cputs]
  | p :: P, pre, r, h => by
    obtain ⟨o, j⟩ := p
    have hj := h (o, j) List.mem_cons_self
    simp only at hj
    have e0 : pre ++ (cputs ((o, j) :: P) ++ r) = pre ++ (wput (cbit o) ++ (wputI j ++ (cputs P ++ r))) := by simp [cputs, cput1]
    have hcb : cbit o ≤ 1 := by unfold cbit; split <;> omega
    have ha : rCount ((pre ++ (cputs ((o, j) :: P) ++ r)).drop pre.length) 1 0 = (cbit o, (wput (cbit o)).length, 0) := by
      rw [e0, List.drop_left]
      unfold rCount
      rw [rNum_wput _ _ (by omega), if_neg (by simp; omega)]
    have e1 : pre ++ (cputs ((o, j) :: P) ++ r) = (pre ++ wput (cbit o)) ++ (wputI j ++ (cputs P ++ r)) := by rw [e0, List.append_assoc]
    have hb : rNum ((pre ++ (cputs ((o, j) :: P) ++ r)).drop (pre.length + (wput (cbit o)).length)) 0 = (j.toNat, (wputI j).length, 0) := by
      rw [e1, ← List.length_append, List.drop_left]
      exact rNum_wput _ _ (by omega)
    have e2 : pre ++ (cputs ((o, j) :: P) ++ r) = (pre ++ wput (cbit o) ++ wputI j) ++ (cputs P ++ r) := by rw [e1, List.append_assoc (pre ++ wput (cbit o))]
    have ih := cg_cputs P (pre ++ wput (cbit o) ++ wputI j) r (fun q hq => h q (List.mem_cons_of_mem _ hq))
    rw [List.length_cons, cg_succ _ _ _ _ ha hb, e2]
    have e3 : pre.length + (wput (cbit o)).length + (wputI j).length = (pre ++ wput (cbit o) ++ wputI j).length := by simp; omega
    rw [e3, ih]
    have e4 : decide (cbit o = 1) = o := by cases o <;> rfl
    have e5 : ((j.toNat : Nat) : Int) = j := by omega
    rw [e4, e5]
    simp [cputs, cput1]
    omega
theorem cgAll_cput (e : Int) (P : List (Bool × Int)) (hl : P.length = 5) (h0 : 0 ≤ e) (h1 : e ≤ 1099511627776) (hP : ∀ p ∈ P, 0 ≤ p.2 ∧ p.2 ≤ e) : cgAll (cput e P) = (e, P, 0) := by
  have hn : rNum (cput e P) 0 = (e.toNat, (wputI e).length, 0) := rNum_wput _ _ (by omega)
  have hc := cg_cputs P (wputI e) [] (fun p hp => by have := hP p hp; omega)
  rw [hl, List.append_nil] at hc
  have hc' : cg 5 (cput e P) (wputI e).length 0 = (P, (wputI e).length + (cputs P).length, 0) := hc
  have e1 : ((e.toNat : Nat) : Int) = e := by omega
  unfold cgAll
  rw [hn]
  simp only
  rw [hc', e1]
  simp only
  have hR : ¬ (True ∧ ¬ ((0 ≤ e ∧ e ≤ 1099511627776) ∧ ∀ p ∈ P, 0 ≤ p.2 ∧ p.2 ≤ e)) := fun h => h.2 ⟨⟨h0, h1⟩, hP⟩
  rw [if_neg hR, if_neg]
  unfold cput
  simp
end Go.Proofs.Ytedegdojbhegdaa
