/- XMixK's laws with the test for nil among the pure operations. Printed by gen/mixn.py. No program is named here, and nothing is assumed. -/
import Derived.Test.YtimmfcbpdnlfjaaDoorMixK
namespace Go.Proofs.YtimmfcbpdnlfjaaDoor.NC
open Go.RowKit Go.Sort

def calmK (o : Oper) : Bool := Go.Proofs.YtimmfcbpdnlfjaaDoor.calmK o || nilK o
theorem calm_enterK {P : Program} {w w' : World} {f : FuncId} {args : Array Value} {o : Oper} {ρ : Operand → Value} (hc : calmK o = true) (h : (execOp ρ o).run P w = .ok (.enter f args) w') : False := calm_enterL hc h

section
variable {S : Nat → Prop} {P : Program} {ops : Array Oper} {md : Region.Mode}
theorem wpOp_putJk {j : Nat} {oi oj : Oper} {v : Value} {J : Act → Prop} (hj : ops[j]? = some oj) (hap : oi.apart ops oj = true) (hsj : ∀ cs b, oj.op ≠ .select cs b)
    (hJ : ∀ a u, J a → J (a.put oj.dst u)) (hJd : ∀ (a : Act) d, J a → J { a with defers := d :: a.defers }) {K : Act → World → Prop} {a : Act} {w : World}
    (hy : J a) (h : wpOp P ops noQ j K (a.put oi.dst v) w) : wpOp P ops noQ j (fun a' w' => J a' ∧ K (a'.put oi.dst v) w') a w := by
  obtain ⟨h1, h2, -⟩ := Oper.apart_spec hap
  unfold wpOp at *
  simp only [hj] at *
  rw [wanted_put oj a oi.dst v h1] at h
  split
  · rename_i hw
    simp only [hw, if_true] at h
    rcases h with h | ⟨_, _, _, h⟩
    case inr => exact h.elim
    refine .inl ?_
    unfold Oper.wp at *
    rw [execOp_put oj hsj a oi.dst v h1] at h
    generalize (execOp a.eval oj).run P w = r at *
    cases r with
    | ok n w' =>
      cases n <;> simp only [Oper.upon] at h ⊢
      case value u => exact ⟨hJ _ _ hy, by rw [← Act.put_comm a v u h2]; exact h⟩
      case skip => exact ⟨hJ _ _ hy, by rw [← Act.put_comm a v undef h2]; exact h⟩
      case defer d =>
        refine ⟨hJ _ _ (hJd _ _ hy), ?_⟩
        rw [← Act.put_comm _ v undef h2, ← Act.put_defers]
        exact h
      case enter f args =>
        refine Calls.mono h fun e w'' he => ?_
        cases e with
        | returned u => exact ⟨hJ _ _ hy, by rw [← Act.put_comm a v u h2]; exact he⟩
        | panicked c => exact he
        | outgrown => exact he
      case row row args => exact Rows.mono h fun u w'' he => ⟨hJ _ _ hy, by rw [← Act.put_comm a v u h2]; exact he⟩
    | halt x w' =>
      cases x <;> simp only [Oper.upon] at h ⊢
      case panic u => exact h
  · rename_i hw
    simp only [hw] at h
    exact ⟨hJ _ _ hy, by rw [← Act.put_comm a v undef h2]; exact h⟩

end

section
variable {S : Nat → Prop} {P : Program} {ops : Array Oper} {md : Region.Mode}

/-- In state 'a', in every world that some calls may leave, operation 'o' yields 'v', and does nothing else. -/
def MYDk (S : Nat → Prop) (P : Program) (ops : Array Oper) (w : World) (o : Oper) (v : Value) (a : Act) : Prop :=
  (Region.wanted o (yielded ops a.tmps) = true ∧ ∀ w', (∃ p : Kept S w, w' = p.v) → (execOp a.eval o).run P w' = .ok (.value v) w' ∨ ((execOp a.eval o).run P w' = .ok .skip w' ∧ v = undef) ∨ (∃ f args, (execOp a.eval o).run P w' = .ok (.enter f args) w' ∧ Calls P f args w' fun e w'' => e = .returned v ∧ w'' = w')) ∨
  (Region.wanted o (yielded ops a.tmps) = false ∧ v = undef)
theorem MYDk.of_same {w : World} {o : Oper} {v : Value} {a a' : Act} (hy : MYDk S P ops w o v a) (he : execOp a'.eval o = execOp a.eval o)
    (hw : Region.wanted o (yielded ops a'.tmps) = Region.wanted o (yielded ops a.tmps)) : MYDk S P ops w o v a' := by
  unfold MYDk at *
  rw [he, hw]
  exact hy
theorem MYDk.later {w w1 : World} {o : Oper} {v : Value} {a : Act} (hy : MYDk S P ops w o v a) (h : ∃ p : Kept S w, w1 = p.v) : MYDk S P ops w1 o v a := by
  rcases hy with ⟨h1, h2⟩ | h1
  · exact .inl ⟨h1, fun w' hw' => h2 w' (kp_trans h hw')⟩
  · exact .inr h1
theorem MYDk.wpOp {w w' : World} {i : Nat} {o : Oper} {v : Value} {a : Act} {Q : Exit → Act → World → Prop} (hi : ops[i]? = some o) (hy : MYDk S P ops w o v a) (hw : ∃ p : Kept S w, w' = p.v)
    {K : Act → World → Prop} (h : K (a.put o.dst v) w') : wpOp P ops Q i K a w' := by
  unfold Go.wpOp
  simp only [hi]
  rcases hy with ⟨h1, h2⟩ | ⟨h1, rfl⟩
  · rcases h2 w' hw with h3 | ⟨h3, rfl⟩ | ⟨f, args, h3, h4⟩
    · simp only [h1, if_true, Oper.wp, h3, Oper.upon]; exact .inl h
    · simp only [h1, if_true, Oper.wp, h3, Oper.upon]; exact .inl h
    · simp only [h1, if_true, Oper.wp, h3, Oper.upon]
      exact .inl (Calls.mono h4 fun e w'' he => by obtain ⟨rfl, rfl⟩ := he; exact h)
  · simp only [h1, Bool.false_eq_true, if_false]; exact h

def mOpDk (S : Nat → Prop) (P : Program) (ops : Array Oper) (i : Nat) (K : Act → World → Prop) (a : Act) (w : World) : Prop :=
  match ops[i]? with
  | none => False
  | some o => (∃ v, MYDk S P ops w o v a ∧ K (a.put o.dst v) w) ∨ wpOp P ops noQ i (fun a' w'' => (∃ p : Kept S w, w'' = p.v) ∧ K a' w'') a w

theorem mOp_monoDk {i : Nat} {K K' : Act → World → Prop} {a : Act} {w : World} (h : ∀ a w, K a w → K' a w) (hh : mOpDk S P ops i K a w) : mOpDk S P ops i K' a w := by
  unfold mOpDk at *
  split
  · rename_i ho; simp only [ho] at hh
  · rename_i o ho
    simp only [ho] at hh
    rcases hh with ⟨v, h1, h2⟩ | h1
    · exact .inl ⟨v, h1, h _ _ h2⟩
    · exact .inr (wpOp_mono (fun a w ⟨h2, h3⟩ => ⟨h2, h _ _ h3⟩) h1)

def wpAnyMDk (S : Nat → Prop) (P : Program) (md : Region.Mode) (ops : Array Oper) (Q : Exit → Act → World → Prop) : Nat → Array Bool → Act → World → Prop
  | 0, listed, a, w => Region.ready md ops listed = [] ∧ Q .normal a w
  | fuel + 1, listed, a, w => (Region.ready md ops listed = [] → Q .normal a w) ∧
    ∀ i ∈ Region.ready md ops listed, mOpDk S P ops i (wpAnyMDk S P md ops Q fuel (listed.setIfInBounds i true)) a w

theorem wpAny_of_MDk {Q : Exit → Act → World → Prop} : ∀ (fuel : Nat) (listed : Array Bool) (a : Act) (w : World), wpAnyMDk S P md ops Q fuel listed a w → wpAny P md ops Q fuel listed a w
  | 0, _, _, _, h => ⟨h.1, h.2⟩
  | fuel + 1, listed, a, w, h => by
    refine ⟨fun h0 => h.1 h0, fun i hi => ?_⟩
    have h1 := h.2 i hi
    unfold mOpDk at h1
    split at h1
    · exact h1.elim
    · rename_i o ho
      rcases h1 with ⟨v, h2, h3⟩ | h2
      · exact h2.wpOp ho (kp_refl w) (wpAny_of_MDk fuel _ _ w h3)
      · exact wpOp_mono (fun a' w'' ⟨_, h3⟩ => wpAny_of_MDk fuel _ a' w'' h3) (wpOp_q (fun _ _ _ _ h => h.elim) h2)

theorem mOp_putDk {j : Nat} {oi oj : Oper} {v : Value} {w : World} (hj : ops[j]? = some oj) (hap : oi.apart ops oj = true)
    (hsi : ∀ cs b, oi.op ≠ .select cs b) (hsj : ∀ cs b, oj.op ≠ .select cs b) {K : Act → World → Prop} {a : Act}
    (hy : MYDk S P ops w oi v a) (h : mOpDk S P ops j K (a.put oi.dst v) w) : mOpDk S P ops j (fun a' w' => MYDk S P ops w' oi v a' ∧ K (a'.put oi.dst v) w') a w := by
  obtain ⟨h1, h2, h3⟩ := Oper.apart_spec hap
  have keep : ∀ (a : Act) u, MYDk S P ops w oi v a → MYDk S P ops w oi v (a.put oj.dst u) := fun a u hy =>
    hy.of_same (execOp_put oi hsi a oj.dst u h3) (wanted_put oi a oj.dst u h3)
  unfold mOpDk at *
  simp only [hj] at h ⊢
  rcases h with ⟨u, hu, hn⟩ | h
  · refine .inl ⟨u, hu.of_same (execOp_put oj hsj a oi.dst v h1).symm (wanted_put oj a oi.dst v h1).symm, keep a u hy, ?_⟩
    rw [← Act.put_comm a v u h2]; exact hn
  · refine .inr ?_
    refine wpOp_mono ?_ (wpOp_putJk (J := MYDk S P ops w oi v) hj hap hsj keep (fun a d hy => hy.of_same rfl rfl) hy h)
    exact fun a' w'' ⟨h4, h5, h6⟩ => ⟨h5, h4.later h5, h6⟩

theorem wpAnyM_firstDk {Q : Exit → Act → World → Prop} {i : Nat} {oi : Oper} {v : Value} (hi : ops[i]? = some oi) (hsel : ∀ (j : Nat) (o : Oper) cs b, ops[j]? = some o → o.op ≠ .select cs b) :
    ∀ (fuel : Nat) (listed : Array Bool) (a : Act) (w : World),
      (∀ j oj, ops[j]? = some oj → j ≠ i → listed.getD j true = false → (∀ e ∈ oj.after, Region.binds md e = true → e.on ≠ i) → oi.apart ops oj = true) →
      i ∈ Region.ready md ops listed → MYDk S P ops w oi v a →
      wpAnyMDk S P md ops Q fuel (listed.setIfInBounds i true) (a.put oi.dst v) w → wpAnyMDk S P md ops Q (fuel + 1) listed a w := by
  have here : ∀ {K : Act → World → Prop} {a : Act} {w : World}, MYDk S P ops w oi v a → K (a.put oi.dst v) w → mOpDk S P ops i K a w := fun hy H => by
    unfold mOpDk; simp only [hi]; exact .inl ⟨v, hy, H⟩
  intro fuel
  induction fuel with
  | zero =>
    intro listed a w _ hr hy H
    refine ⟨fun h => (by rw [h] at hr; cases hr), fun j hj => ?_⟩
    by_cases hji : j = i
    · subst hji; exact here hy H
    · have := ready_mono hj hji
      rw [H.1] at this
      cases this
  | succ fuel ih =>
    intro listed a w hfree hr hy H
    refine ⟨fun h => (by rw [h] at hr; cases hr), fun j hj => ?_⟩
    by_cases hji : j = i
    · subst hji; exact here hy H
    · have h1 := H.2 j (ready_mono hj hji)
      obtain ⟨hjun, oj, hoj, hall⟩ := mem_ready.1 hj
      have hnot : ∀ e ∈ oj.after, Region.binds md e = true → e.on ≠ i := fun e he hb heq => by
        have h1 := hall e he hb
        have h0 := (mem_ready.1 hr).1
        rw [heq] at h1
        rcases Nat.lt_or_ge i listed.size with h' | h'
        · simp [h'] at h0 h1; rw [h0] at h1; cases h1
        · simp [Array.getElem?_eq_none h'] at h1
      have h2 := mOp_putDk hoj (hfree j oj hoj hji hjun hnot) (fun cs b => hsel i oi cs b hi) (fun cs b => hsel j oj cs b hoj) hy h1
      have hfree' : ∀ k ok, ops[k]? = some ok → k ≠ i → (listed.setIfInBounds j true).getD k true = false →
          (∀ e ∈ ok.after, Region.binds md e = true → e.on ≠ i) → oi.apart ops ok = true := fun k ok hk hki hun hno => by
        refine hfree k ok hk hki ?_ hno
        by_cases hjk : j = k
        · subst hjk; exact hjun
        · rw [getD_set_ne true hjk] at hun; exact hun
      refine mOp_monoDk (fun a' w' h3 => ih (listed.setIfInBounds j true) a' w' hfree' (ready_mono hr (Ne.symm hji)) h3.1 ?_) h2
      rw [Array.setIfInBounds_comm _ _ hji]
      exact h3.2
end

/-- The walk in the order that is laid. -/
def wpMixDk (S : Nat → Prop) (P : Program) (M : List Nat) (l : List Oper) (Q : Exit → Act → World → Prop) : List Nat → Act → World → Prop
  | [], a, w => Q .normal a w
  | i :: rest, a, w => match l[i]? with
    | none => False
    | some o => if calmK o then wpQuiet P l.toArray (fun w' => ∃ p : Kept S w, w' = p.v) (fun a' => wpMixDk S P M l Q rest a' w) [o] a
      else if M.contains i then ∃ v f args, Region.wanted o (yielded l.toArray a.tmps) = true ∧ (∀ p : Kept S w, (execOp a.eval o).run P p.v = .ok (.enter f args) p.v) ∧ (∀ p : Kept S w, Calls P f args p.v fun e w'' => e = .returned v ∧ w'' = p.v) ∧ wpMixDk S P M l Q rest (a.put o.dst v) w
      else wpList P l.toArray (fun e a' w'' => e = .normal ∧ (∃ p : Kept S w, w'' = p.v) ∧ wpMixDk S P M l Q rest a' w'') [o] a w

def mixFromDk (M : List Nat) (md : Region.Mode) (ops : Array Oper) : List Nat → Array Bool → Bool
  | [], listed => (Region.ready md ops listed).isEmpty
  | i :: rest, listed => (match ops[i]? with
    | none => false
    | some o => if calmK o || M.contains i then (Region.ready md ops listed).contains i && Region.free md ops listed i else Region.ready md ops listed == [i]) && mixFromDk M md ops rest (listed.setIfInBounds i true)
def mixBDk (M : List Nat) (l : List Oper) (ord : List Nat) : Bool := Region.noSelect l.toArray && decide (ord.length = l.length) && mixFromDk M .any l.toArray ord (Array.replicate l.length false)

section
variable {S : Nat → Prop} {P : Program} {M : List Nat} {l : List Oper} {Q : Exit → Act → World → Prop} {md : Region.Mode}

theorem wpAnyM_mixDk (hs : Region.noSelect l.toArray = true) : ∀ (ord : List Nat) (listed : Array Bool) (a : Act) (w : World), mixFromDk M md l.toArray ord listed = true → wpMixDk S P M l Q ord a w → wpAnyMDk S P md l.toArray Q ord.length listed a w
  | [], listed, a, w, hB, h => ⟨by simpa [mixFromDk] using hB, h⟩
  | i :: ord, listed, a, w, hB, h => by
    simp only [mixFromDk, Bool.and_eq_true] at hB
    obtain ⟨hB1, hB2⟩ := hB
    have hll : l.toArray[i]? = l[i]? := by simp
    rw [hll] at hB1
    unfold wpMixDk at h
    cases ho : l[i]? with
    | none => rw [ho] at hB1; simp at hB1
    | some o =>
      rw [ho] at hB1 h
      rw [ho] at hll
      simp only [] at hB1 h
      by_cases hc : calmK o = true
      · rw [if_pos (by rw [hc]; rfl)] at hB1
        rw [if_pos hc] at h
        simp only [Bool.and_eq_true] at hB1
        obtain ⟨hr, hf⟩ := hB1
        have : ∃ v, MYDk S P l.toArray w o v a ∧ wpMixDk S P M l Q ord (a.put o.dst v) w := by
          unfold wpQuiet at h
          by_cases hw : Region.wanted o (yielded l.toArray a.tmps) = true
          · rw [if_pos hw] at h
            obtain ⟨v, h1, h2⟩ := h
            refine ⟨v, .inl ⟨hw, fun w' hw' => ?_⟩, h2⟩
            have h3 := h1 w' hw'
            unfold Oper.quietAt at h3
            cases hr : (execOp a.eval o).run P w' with
            | ok n w2 =>
              rw [hr] at h3
              cases n <;> simp only [Oper.quietUpon] at h3
              case value u => obtain ⟨rfl, rfl⟩ := h3; exact .inl rfl
              case skip => obtain ⟨rfl, rfl⟩ := h3; exact .inr (.inl ⟨rfl, rfl⟩)
              case enter f args => exact (calm_enterK hc hr).elim
            | halt x w2 => rw [hr] at h3; simp only [Oper.quietUpon] at h3
          · rw [if_neg hw] at h
            exact ⟨undef, .inr ⟨by simpa using hw, rfl⟩, h⟩
        obtain ⟨v, hy, hK⟩ := this
        exact wpAnyM_firstDk hll (Region.noSelect_spec hs) ord.length listed a w (Region.free_spec hll hf) (by simpa using hr) hy (wpAnyM_mixDk hs ord _ _ w hB2 hK)
      · by_cases hM : M.contains i = true
        · rw [if_pos (by rw [hM, Bool.or_true])] at hB1
          rw [if_neg hc, if_pos hM] at h
          simp only [Bool.and_eq_true] at hB1
          obtain ⟨hr, hf⟩ := hB1
          obtain ⟨v, f, args, hw, h1, h2, hK⟩ := h
          have hy : MYDk S P l.toArray w o v a := .inl ⟨hw, fun w' hw' => by obtain ⟨p, rfl⟩ := hw'; exact .inr (.inr ⟨f, args, h1 p, h2 p⟩)⟩
          exact wpAnyM_firstDk hll (Region.noSelect_spec hs) ord.length listed a w (Region.free_spec hll hf) (by simpa using hr) hy (wpAnyM_mixDk hs ord _ _ w hB2 hK)
        rw [if_neg (by simp only [Bool.or_eq_true]; rintro (h9 | h9); exact hc h9; exact hM h9)] at hB1
        rw [if_neg hc, if_neg hM] at h
        have hr : Region.ready md l.toArray listed = [i] := by simpa using hB1
        refine ⟨fun h0 => (by rw [hr] at h0; cases h0), fun j hj => ?_⟩
        rw [hr, List.mem_singleton] at hj
        subst hj
        unfold mOpDk
        rw [hll]
        refine .inr ?_
        have h1 := h
        unfold wpList at h1
        unfold wpOp
        rw [hll]
        simp only [] at h1 ⊢
        split
        · rename_i hw
          rw [if_pos hw] at h1
          rcases h1 with h1 | ⟨_, _, _, h1, _⟩
          · refine .inl (Oper.wp_q (Q := fun e a' w'' => e = .normal ∧ (∃ p : Kept S w, w'' = p.v) ∧ wpMixDk S P M l Q ord a' w'') (fun e a w he hq => (he hq.1).elim) ?_)
            refine Oper.wp_mono ?_ h1
            exact fun a' w'' h2 => ⟨h2.2.1, wpAnyM_mixDk hs ord _ a' w'' hB2 h2.2.2⟩
          · cases h1
        · rename_i hw
          rw [if_neg hw] at h1
          exact ⟨h1.2.1, wpAnyM_mixDk hs ord _ _ w hB2 h1.2.2⟩

/-- **One walk of an order that is laid serves every order.** -/
theorem wp_region_mixDk {id : Nat} {a : Act} {w : World} (S : Nat → Prop) (ord : List Nat) (hm : P.follows .mixedOrders = true) (hB : mixBDk M l ord = true) (h : wpMixDk S P M l Q ord a w.drew) : (Code.region id l.toArray true).wp P Q a w := by
  simp only [mixBDk, Bool.and_eq_true, decide_eq_true_eq] at hB
  obtain ⟨⟨hs, hl⟩, hB⟩ := hB
  refine wp_region_any hm (wpAny_of_MDk (S := S) _ _ _ _ ?_)
  have := wpAnyM_mixDk (md := .any) hs ord _ a w.drew hB h
  rw [hl] at this
  simpa using this

theorem mix_endDk {a : Act} {w : World} (h : Q .normal a w) : wpMixDk S P M l Q [] a w := h
theorem mix_calmDk {a : Act} {w : World} {i : Nat} {rest : List Nat} {o : Oper} {t : List Oper} (h0 : l.drop i = o :: t) (hc : calmK o = true)
    (h : wpQuiet P l.toArray (fun w' => ∃ p : Kept S w, w' = p.v) (fun a' => wpMixDk S P M l Q rest a' w) [o] a) : wpMixDk S P M l Q (i :: rest) a w := by
  have hl : l[i]? = some o := by have := congrArg (·[0]?) h0; simpa using this
  unfold wpMixDk
  rw [hl]
  simp only [hc, if_true]
  exact h
theorem mix_mildDk {a : Act} {w : World} {i : Nat} {rest : List Nat} {o : Oper} {t : List Oper} (h0 : l.drop i = o :: t) (hc : calmK o = false) (hM : M.contains i = true) (v : Value) (f : FuncId) (args : Array Value) (hw : Region.wanted o (yielded l.toArray a.tmps) = true)
    (hr : ∀ p : Kept S w, (execOp a.eval o).run P p.v = .ok (.enter f args) p.v) (hk : ∀ p : Kept S w, Calls P f args p.v fun e w'' => e = .returned v ∧ w'' = p.v) (h : wpMixDk S P M l Q rest (a.put o.dst v) w) : wpMixDk S P M l Q (i :: rest) a w := by
  have hl : l[i]? = some o := by have := congrArg (·[0]?) h0; simpa using this
  unfold wpMixDk
  rw [hl]
  simp only [hc, Bool.false_eq_true, if_false, hM, if_true]
  exact ⟨v, f, args, hw, hr, hk, h⟩
theorem mix_loudDk {a : Act} {w : World} {i : Nat} {rest : List Nat} {o : Oper} {t : List Oper} (h0 : l.drop i = o :: t) (hc : calmK o = false) (hM : M.contains i = false)
    (h : ∀ K : Exit → Act → World → Prop, (∀ a' w'', Stand S w w'' → wpMixDk S P M l Q rest a' w'' → K .normal a' w'') → wpList P l.toArray K [o] a w) : wpMixDk S P M l Q (i :: rest) a w := by
  have hl : l[i]? = some o := by have := congrArg (·[0]?) h0; simpa using this
  unfold wpMixDk
  rw [hl]
  simp only [hc, hM, Bool.false_eq_true, if_false]
  exact h _ fun a' w'' h1 h2 => ⟨rfl, kp_of h1, h2⟩
end

section
variable {S : Nat → Prop} {P : Program} {ops : Array Oper} {md : Region.Mode}

def wpAnyMTk (S : Nat → Prop) (P : Program) (md : Region.Mode) (ops : Array Oper) (n : Nat) (L : Array Bool → Act → World → Prop) : Nat → Array Bool → Act → World → Prop
  | 0, listed, a, w => L listed a w
  | f + 1, listed, a, w => Region.ready md ops listed ≠ [] ∧ ∀ i ∈ Region.ready md ops listed, i < n ∧ mOpDk S P ops i (wpAnyMTk S P md ops n L f (listed.setIfInBounds i true)) a w

theorem wpAny_of_MTk {Q : Exit → Act → World → Prop} {n g : Nat} {L : Array Bool → Act → World → Prop} (hL : ∀ listed a w, L listed a w → wpAny P md ops Q g listed a w) :
    ∀ (f : Nat) (listed : Array Bool) (a : Act) (w : World), wpAnyMTk S P md ops n L f listed a w → wpAny P md ops Q (f + g) listed a w
  | 0, _, _, _, h => by rw [Nat.zero_add]; exact hL _ _ _ h
  | f + 1, listed, a, w, h => by
    rw [show f + 1 + g = (f + g) + 1 by omega]
    refine ⟨fun h0 => absurd h0 h.1, fun i hi => ?_⟩
    have h1 := (h.2 i hi).2
    unfold mOpDk at h1
    split at h1
    · exact h1.elim
    · rename_i o ho
      rcases h1 with ⟨v, h2, h3⟩ | h2
      · exact h2.wpOp ho (kp_refl w) (wpAny_of_MTk hL f _ _ w h3)
      · exact wpOp_mono (fun a' w'' ⟨_, h3⟩ => wpAny_of_MTk hL f _ a' w'' h3) (wpOp_q (fun _ _ _ _ h => h.elim) h2)

theorem wpAnyMT_firstk {n i : Nat} {oi : Oper} {v : Value} {L : Array Bool → Act → World → Prop} (hi : ops[i]? = some oi) (hsel : ∀ (j : Nat) (o : Oper) cs b, ops[j]? = some o → o.op ≠ .select cs b)
    (hs : Region.sinkB md ops n = true) (hc : Region.chainB md ops n = true) (hn : n < ops.size) (hin : i < n)
    (hdone : ∀ listed a w, L listed a w → ∀ j ∈ Region.ready md ops listed, n ≤ j) :
    ∀ (f : Nat) (listed : Array Bool) (a : Act) (w : World), HeadInv md ops n listed →
      (∀ j oj, ops[j]? = some oj → j ≠ i → listed.getD j true = false → (∀ e ∈ oj.after, Region.binds md e = true → e.on ≠ i) → oi.apart ops oj = true) →
      i ∈ Region.ready md ops listed → MYDk S P ops w oi v a →
      wpAnyMTk S P md ops n L f (listed.setIfInBounds i true) (a.put oi.dst v) w → wpAnyMTk S P md ops n L (f + 1) listed a w := by
  have here : ∀ {K : Act → World → Prop} {a : Act} {w : World}, MYDk S P ops w oi v a → K (a.put oi.dst v) w → mOpDk S P ops i K a w := fun hy H => by
    unfold mOpDk; simp only [hi]; exact .inl ⟨v, hy, H⟩
  intro f
  induction f with
  | zero =>
    intro listed a w inv _ hr hy H
    have hun := (mem_ready.1 hr).1
    refine ⟨fun h => (by rw [h] at hr; cases hr), fun j hj => ?_⟩
    have hjn : j < n := by
      rcases Nat.lt_or_ge j n with h | h
      · exact h
      · exact absurd hj (tail_waits hs hc hn inv _ i rfl hin hun j h)
    refine ⟨hjn, ?_⟩
    by_cases hji : j = i
    · subst hji; exact here hy H
    · have := hdone _ _ _ H j (ready_mono hj hji)
      omega
  | succ f ih =>
    intro listed a w inv hfree hr hy H
    have hun := (mem_ready.1 hr).1
    refine ⟨fun h => (by rw [h] at hr; cases hr), fun j hj => ?_⟩
    have hjn : j < n := by
      rcases Nat.lt_or_ge j n with h | h
      · exact h
      · exact absurd hj (tail_waits hs hc hn inv _ i rfl hin hun j h)
    refine ⟨hjn, ?_⟩
    by_cases hji : j = i
    · subst hji; exact here hy H
    · have h1 := (H.2 j (ready_mono hj hji)).2
      obtain ⟨hjun, oj, hoj, hall⟩ := mem_ready.1 hj
      have hnot : ∀ e ∈ oj.after, Region.binds md e = true → e.on ≠ i := fun e he hb heq => by
        have h1 := hall e he hb
        rw [heq, getD_both hun] at h1
        cases h1
      have h2 := mOp_putDk hoj (hfree j oj hoj hji hjun hnot) (fun cs b => hsel i oi cs b hi) (fun cs b => hsel j oj cs b hoj) hy h1
      have hfree' : ∀ k ok, ops[k]? = some ok → k ≠ i → (listed.setIfInBounds j true).getD k true = false →
          (∀ e ∈ ok.after, Region.binds md e = true → e.on ≠ i) → oi.apart ops ok = true := fun k ok hk hki hun hno => by
        refine hfree k ok hk hki ?_ hno
        by_cases hjk : j = k
        · subst hjk; exact hjun
        · rw [getD_set_ne true hjk] at hun; exact hun
      refine mOp_monoDk (fun a' w' h3 => ih (listed.setIfInBounds j true) a' w' (inv.set hj hjn) hfree' (ready_mono hr (Ne.symm hji)) h3.1 ?_) h2
      rw [Array.setIfInBounds_comm _ _ hji]
      exact h3.2
end

def mixFromTk (M : List Nat) (md : Region.Mode) (ops : Array Oper) (n : Nat) : List Nat → Array Bool → Bool
  | [], listed => Region.seqB md ops (ops.size - n) n listed
  | i :: rest, listed => (match ops[i]? with
    | none => false
    | some o => if calmK o || M.contains i then (Region.ready md ops listed).contains i && Region.free md ops listed i else decide (Region.ready md ops listed = [i])) && mixFromTk M md ops n rest (listed.setIfInBounds i true)
def mixBTk (M : List Nat) (l : List Oper) (n : Nat) (ord : List Nat) : Bool :=
  Region.noSelect l.toArray && decide (n < l.toArray.size) && decide (ord.length = n) && ord.all (fun i => decide (i < n)) && Region.sinkB .any l.toArray n && Region.chainB .any l.toArray n && mixFromTk M .any l.toArray n ord (Array.replicate l.toArray.size false)

section
variable {S : Nat → Prop} {P : Program} {M : List Nat} {l : List Oper} {Q : Exit → Act → World → Prop} {md : Region.Mode}

/-- What the tail needs: it is alone, and its walk stands in every world that the head may leave. -/
def TailMTk (P : Program) (md : Region.Mode) (l : List Oper) (n : Nat) (Q : Exit → Act → World → Prop) (listed : Array Bool) (a : Act) (w : World) : Prop :=
  Region.seqB md l.toArray (l.toArray.size - n) n listed = true ∧ wpList P l.toArray Q (l.drop n) a w

theorem wpAnyMT_mixk {n : Nat} {L : Exit → Act → World → Prop} (hsel : Region.noSelect l.toArray = true) (hs : Region.sinkB md l.toArray n = true) (hc : Region.chainB md l.toArray n = true) (hn : n < l.toArray.size)
    (hL : ∀ a w, L .normal a w → wpList P l.toArray Q (l.drop n) a w) : ∀ (ord : List Nat) (listed : Array Bool) (a : Act) (w : World), (∀ i ∈ ord, i < n) → HeadInv md l.toArray n listed → mixFromTk M md l.toArray n ord listed = true → wpMixDk S P M l L ord a w → wpAnyMTk S P md l.toArray n (TailMTk P md l n Q) ord.length listed a w
  | [], listed, a, w, _, _, hB, h => ⟨hB, hL _ _ h⟩
  | i :: ord, listed, a, w, hlt, inv, hB, h => by
    simp only [mixFromTk, Bool.and_eq_true] at hB
    obtain ⟨hB1, hB2⟩ := hB
    have hin : i < n := hlt i (by simp)
    have hlt' : ∀ j ∈ ord, j < n := fun j hj => hlt j (by simp [hj])
    have hdone : ∀ listed a w, TailMTk P md l n Q listed a w → ∀ j ∈ Region.ready md l.toArray listed, n ≤ j := fun _ _ _ hL => seqB_ready hL.1
    have hll : l.toArray[i]? = l[i]? := by simp
    rw [hll] at hB1
    unfold wpMixDk at h
    cases ho : l[i]? with
    | none => rw [ho] at hB1; simp at hB1
    | some o =>
      rw [ho] at hB1 h
      rw [ho] at hll
      simp only [] at hB1 h
      by_cases hc' : calmK o = true
      · rw [if_pos (by rw [hc']; rfl)] at hB1
        rw [if_pos hc'] at h
        simp only [Bool.and_eq_true] at hB1
        obtain ⟨hr, hf⟩ := hB1
        have hr' : i ∈ Region.ready md l.toArray listed := by simpa using hr
        have : ∃ v, MYDk S P l.toArray w o v a ∧ wpMixDk S P M l L ord (a.put o.dst v) w := by
          unfold wpQuiet at h
          by_cases hw : Region.wanted o (yielded l.toArray a.tmps) = true
          · rw [if_pos hw] at h
            obtain ⟨v, h1, h2⟩ := h
            refine ⟨v, .inl ⟨hw, fun w' hw' => ?_⟩, h2⟩
            have h3 := h1 w' hw'
            unfold Oper.quietAt at h3
            cases hr : (execOp a.eval o).run P w' with
            | ok n w2 =>
              rw [hr] at h3
              cases n <;> simp only [Oper.quietUpon] at h3
              case value u => obtain ⟨rfl, rfl⟩ := h3; exact .inl rfl
              case skip => obtain ⟨rfl, rfl⟩ := h3; exact .inr (.inl ⟨rfl, rfl⟩)
              case enter f args => exact (calm_enterK hc' hr).elim
            | halt x w2 => rw [hr] at h3; simp only [Oper.quietUpon] at h3
          · rw [if_neg hw] at h
            exact ⟨undef, .inr ⟨by simpa using hw, rfl⟩, h⟩
        obtain ⟨v, hy, hK⟩ := this
        exact wpAnyMT_firstk hll (Region.noSelect_spec hsel) hs hc hn hin hdone ord.length listed a w inv (Region.free_spec hll hf) hr' hy (wpAnyMT_mixk hsel hs hc hn hL ord _ _ w hlt' (inv.set hr' hin) hB2 hK)
      · by_cases hM : M.contains i = true
        · rw [if_pos (by rw [hM, Bool.or_true])] at hB1
          rw [if_neg hc', if_pos hM] at h
          simp only [Bool.and_eq_true] at hB1
          obtain ⟨hr, hf⟩ := hB1
          have hr' : i ∈ Region.ready md l.toArray listed := by simpa using hr
          obtain ⟨v, f, args, hw, h1, h2, hK⟩ := h
          have hy : MYDk S P l.toArray w o v a := .inl ⟨hw, fun w' hw' => by obtain ⟨p, rfl⟩ := hw'; exact .inr (.inr ⟨f, args, h1 p, h2 p⟩)⟩
          exact wpAnyMT_firstk hll (Region.noSelect_spec hsel) hs hc hn hin hdone ord.length listed a w inv (Region.free_spec hll hf) hr' hy (wpAnyMT_mixk hsel hs hc hn hL ord _ _ w hlt' (inv.set hr' hin) hB2 hK)
        rw [if_neg (by simp only [Bool.or_eq_true]; rintro (h9 | h9); exact hc' h9; exact hM h9)] at hB1
        rw [if_neg hc', if_neg hM] at h
        have hr : Region.ready md l.toArray listed = [i] := by simpa using hB1
        have hr' : i ∈ Region.ready md l.toArray listed := by rw [hr]; simp
        refine ⟨fun h0 => (by rw [hr] at h0; cases h0), fun j hj => ?_⟩
        rw [hr, List.mem_singleton] at hj
        subst hj
        refine ⟨hin, ?_⟩
        unfold mOpDk
        rw [hll]
        refine .inr ?_
        have h1 := h
        unfold wpList at h1
        unfold wpOp
        rw [hll]
        simp only [] at h1 ⊢
        split
        · rename_i hw
          rw [if_pos hw] at h1
          rcases h1 with h1 | ⟨_, _, _, h1, _⟩
          · refine .inl (Oper.wp_q (Q := fun e a' w'' => e = .normal ∧ (∃ p : Kept S w, w'' = p.v) ∧ wpMixDk S P M l L ord a' w'') (fun e a w he hq => (he hq.1).elim) ?_)
            refine Oper.wp_mono ?_ h1
            exact fun a' w'' h2 => ⟨h2.2.1, wpAnyMT_mixk hsel hs hc hn hL ord _ a' w'' hlt' (inv.set hr' hin) hB2 h2.2.2⟩
          · cases h1
        · rename_i hw
          rw [if_neg hw] at h1
          exact ⟨h1.2.1, wpAnyMT_mixk hsel hs hc hn hL ord _ _ w hlt' (inv.set hr' hin) hB2 h1.2.2⟩

/-- **One walk of the head's order that is laid, and of the tail behind it, serves every order.** -/
theorem wp_region_mixTk {id : Nat} {a : Act} {w : World} (S : Nat → Prop) (n : Nat) (ord : List Nat) (hm : P.follows .mixedOrders = true) (hB : mixBTk M l n ord = true)
    (h : wpMixDk S P M l (fun _ a' w' => wpList P l.toArray Q (l.drop n) a' w') ord a w.drew) : (Code.region id l.toArray true).wp P Q a w := by
  simp only [mixBTk, Bool.and_eq_true, decide_eq_true_eq, List.all_eq_true] at hB
  obtain ⟨⟨⟨⟨⟨⟨hsel, hn⟩, hlen⟩, hlt⟩, hs⟩, hc⟩, hB⟩ := hB
  have hdl : (l.drop n).length = l.toArray.size - n := by simp
  have inv0 : HeadInv .any l.toArray n (Array.replicate l.toArray.size false) :=
    ⟨by simp, fun j oj _ hl => (by rw [getD_replicate_false] at hl; cases hl), fun t _ ht => getD_in (by simpa using ht) (getD_replicate_false _ _)⟩
  have H := wpAnyMT_mixk (md := .any) (Q := Q) hsel hs hc hn (fun _ _ h => h) ord _ a w.drew hlt inv0 hB h
  refine wp_region_any hm ?_
  have := wpAny_of_MTk (S := S) (Q := Q) (g := l.toArray.size - n) (fun listed a' w hL => by
    have := wpAny_of_seq (md := .any) (Q' := Q) (l.drop n) n listed a' w (fun j => by simp [List.getElem?_drop]) (by rw [hdl]; exact hL.1) hL.2
    rwa [hdl] at this) _ _ _ _ H
  rw [hlen, show n + (l.toArray.size - n) = l.toArray.size by omega] at this
  exact this
end
end Go.Proofs.YtimmfcbpdnlfjaaDoor.NC
