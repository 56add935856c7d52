/- A region that draws its order, whose operations either have their value at hand in every world that some calls may leave (reads, reckoning), or are CALLS of whatever contract that ends in 'Below': walked once, in an order that is laid: all that may come up and makes no call ahead of each call. A CALL MAY RETURN WHAT LIES ELSEWHERE FROM WORLD TO WORLD (a fresh slice). No program is named here, and nothing is assumed. -/
import Derived.Test.YtedegdojbhegdaaDoorWords
import Derived.StillTail
import Derived.Lib.QuietBelow
namespace Go.Proofs.YtedegdojbhegdaaDoor
open Go.RowKit Go.Sort

theorem mix_of_below {w w' : World} (h : Below w.heap.size w w') : ∃ p : Regrown, w' = grow (redrawn w p.d) p.os := regrown_of_below h
theorem below_of_mix {w w' : World} (h : ∃ p : Regrown, w' = grow (redrawn w p.d) p.os) : Below w.heap.size w w' := by
  obtain ⟨p, rfl⟩ := h
  exact below_regrown w p.d p.os
theorem mix_trans {w w' w'' : World} (h : ∃ p : Regrown, w' = grow (redrawn w p.d) p.os) (h' : ∃ p : Regrown, w'' = grow (redrawn w' p.d) p.os) : ∃ p : Regrown, w'' = grow (redrawn w p.d) p.os := by
  have b := below_of_mix h
  exact mix_of_below (b.trans ((below_of_mix h').mono b.size))
theorem mix_refl (w : World) : ∃ p : Regrown, w = grow (redrawn w p.d) p.os := mix_of_below (Below.refl _ _)

/-- It makes no call, whatever its operands are. -/
def calm (o : Oper) : Bool := match o.op with
  | .move _ | .assign _ | .pick _ _ _ | .load _ _ | .binOp _ _ _ _ _ | .unOp _ _ _ | .convert _ _ _ | .extract _ _ | .indexAddr _ _ _ | .index _ _ _ | .fieldAddr _ _ _ | .field _ _ _ | .makeInterface _ _ | .slice _ _ _ _ _ => true
  | .call c => match c.callee with
    | .builtin b => match b with | .len | .cap | .min | .max => true | _ => false
    | _ => false
  | _ => false

theorem run_val {P : Program} {w w' : World} {f : FuncId} {args : Array Value} (s : Sem Value) (h : (do pure (Next.value (← s)) : Sem Next).run P w = .ok (.enter f args) w') : False := by
  rw [Sem.run_bind] at h
  generalize s.run P w = r at h
  cases r with
  | ok v w1 => simp [Sem.run_pure] at h
  | halt x w1 => simp at h

theorem calm_enter {P : Program} {w w' : World} {f : FuncId} {args : Array Value} {o : Oper} {ρ : Operand → Value} (hc : calm o = true) (h : (execOp ρ o).run P w = .ok (.enter f args) w') : False := by
  unfold calm at hc
  unfold execOp at h
  split at hc
  case h_15 c hop =>
    simp only [hop] at h
    split at hc
    · rename_i b hcal
      unfold resolve at h
      simp only [hcal] at h
      rw [Sem.run_bind, Sem.run_pure, Result.andThen_ok] at h
      unfold invoke at h
      simp only [] at h
      unfold builtin at h
      split at hc
      all_goals first | exact run_val _ h | cases hc
    · cases hc
  case h_16 => cases hc
  all_goals (rename_i hop; simp only [hop] at h; first | exact run_val _ h | (simp [Sem.run_pure] at h; done) | (rw [Sem.run_bind] at h; revert h; generalize (Sem.run P (asBool _) w) = r; intro h; cases r <;> simp [Sem.run_pure] at h))

section
variable {P : Program} {ops : Array Oper} {md : Region.Mode}

def noQ : Exit → Act → World → Prop := fun _ _ _ => False

/-- What is asked behind an operation's ways out other than the plain one. -/
theorem Oper.wp_q {o : Oper} {a : Act} {w : World} {K : Act → World → Prop} {Q Q' : Exit → Act → World → Prop} (hq : ∀ e a w, e ≠ .normal → Q e a w → Q' e a w) (h : o.wp P a w K Q) : o.wp P a w K Q' := by
  unfold Oper.wp at *
  generalize (execOp a.eval o).run P w = r at *
  cases r with
  | ok n w' =>
    cases n <;> simp only [Oper.upon] at h ⊢
    case value u => exact h
    case skip => exact h
    case defer d => exact h
    case enter f args =>
      refine Calls.mono h fun e w'' he => ?_
      cases e with
      | returned u => exact he
      | panicked c => exact hq _ _ _ (by simp) he
      | outgrown => obtain ⟨a, w, h1⟩ := he; exact ⟨a, w, hq _ _ _ (by simp) h1⟩
    case row row args => exact h
  | halt x w' =>
    cases x <;> simp only [Oper.upon] at h ⊢
    case panic u => exact hq _ _ _ (by simp) h
theorem wpOp_q {i : Nat} {a : Act} {w : World} {K : Act → World → Prop} {Q Q' : Exit → Act → World → Prop} (hq : ∀ e a w, e ≠ .normal → Q e a w → Q' e a w) (h : wpOp P ops Q i K a w) : wpOp P ops Q' i K a w := by
  unfold wpOp at *
  split
  · rename_i ho; simp only [ho] at h; exact h
  · rename_i o ho
    simp only [ho] at h
    split
    · rename_i hw
      simp only [hw, if_true] at h
      rcases h with h | ⟨h1, a1, w1, h2⟩
      · exact .inl (Oper.wp_q hq h)
      · exact .inr ⟨h1, a1, w1, hq _ _ _ (by simp) h2⟩
    · rename_i hw; simp only [hw] at h; exact h

/-- In state 'a', in every world that some calls may leave, operation 'o' yields 'v', and does nothing else. -/
def MY (P : Program) (ops : Array Oper) (w : World) (o : Oper) (v : Value) (a : Act) : Prop :=
  (Region.wanted o (yielded ops a.tmps) = true ∧ ∀ w', (∃ p : Regrown, w' = grow (redrawn w p.d) p.os) → (execOp a.eval o).run P w' = .ok (.value v) w' ∨ ((execOp a.eval o).run P w' = .ok .skip w' ∧ v = undef)) ∨
  (Region.wanted o (yielded ops a.tmps) = false ∧ v = undef)
theorem MY.of_same {w : World} {o : Oper} {v : Value} {a a' : Act} (hy : MY P ops w o v a) (he : execOp a'.eval o = execOp a.eval o)
    (hw : Region.wanted o (yielded ops a'.tmps) = Region.wanted o (yielded ops a.tmps)) : MY P ops w o v a' := by
  unfold MY at *
  rw [he, hw]
  exact hy
theorem MY.later {w w1 : World} {o : Oper} {v : Value} {a : Act} (hy : MY P ops w o v a) (h : ∃ p : Regrown, w1 = grow (redrawn w p.d) p.os) : MY P ops w1 o v a := by
  rcases hy with ⟨h1, h2⟩ | h1
  · exact .inl ⟨h1, fun w' hw' => h2 w' (mix_trans h hw')⟩
  · exact .inr h1
theorem MY.wpOp {w w' : World} {i : Nat} {o : Oper} {v : Value} {a : Act} {Q : Exit → Act → World → Prop} (hi : ops[i]? = some o) (hy : MY P ops w o v a) (hw : ∃ p : Regrown, w' = grow (redrawn w p.d) p.os)
    {K : Act → World → Prop} (h : K (a.put o.dst v) w') : wpOp P ops Q i K a w' := by
  unfold Go.wpOp
  simp only [hi]
  rcases hy with ⟨h1, h2⟩ | ⟨h1, rfl⟩
  · rcases h2 w' hw with h3 | ⟨h3, rfl⟩
    · simp only [h1, if_true, Oper.wp, h3, Oper.upon]; exact .inl h
    · simp only [h1, if_true, Oper.wp, h3, Oper.upon]; exact .inl h
  · simp only [h1, Bool.false_eq_true, if_false]; exact h

def mOp (P : Program) (ops : Array Oper) (i : Nat) (K : Act → World → Prop) (a : Act) (w : World) : Prop :=
  match ops[i]? with
  | none => False
  | some o => (∃ v, MY P ops w o v a ∧ K (a.put o.dst v) w) ∨ (∀ w', (∃ p : Regrown, w' = grow (redrawn w p.d) p.os) → wpOp P ops noQ i (fun a' w'' => (∃ p : Regrown, w'' = grow (redrawn w p.d) p.os) ∧ K a' w'') a w')

theorem mOp_mono {i : Nat} {K K' : Act → World → Prop} {a : Act} {w : World} (h : ∀ a w, K a w → K' a w) (hh : mOp P ops i K a w) : mOp P ops i K' a w := by
  unfold mOp at *
  split
  · rename_i ho; simp only [ho] at hh
  · rename_i o ho
    simp only [ho] at hh
    rcases hh with ⟨v, h1, h2⟩ | h1
    · exact .inl ⟨v, h1, h _ _ h2⟩
    · exact .inr fun w' hw' => wpOp_mono (fun a w ⟨h2, h3⟩ => ⟨h2, h _ _ h3⟩) (h1 w' hw')

def wpAnyM (P : Program) (md : Region.Mode) (ops : Array Oper) (Q : Exit → Act → World → Prop) : Nat → Array Bool → Act → World → Prop
  | 0, listed, a, w => Region.ready md ops listed = [] ∧ ∀ w', (∃ p : Regrown, w' = grow (redrawn w p.d) p.os) → Q .normal a w'
  | fuel + 1, listed, a, w => (Region.ready md ops listed = [] → ∀ w', (∃ p : Regrown, w' = grow (redrawn w p.d) p.os) → Q .normal a w') ∧
    ∀ i ∈ Region.ready md ops listed, mOp P ops i (wpAnyM P md ops Q fuel (listed.setIfInBounds i true)) a w

theorem wpAny_of_M {Q : Exit → Act → World → Prop} : ∀ (fuel : Nat) (listed : Array Bool) (a : Act) (w w' : World), (∃ p : Regrown, w' = grow (redrawn w p.d) p.os) → wpAnyM P md ops Q fuel listed a w → wpAny P md ops Q fuel listed a w'
  | 0, _, _, _, w', hw, h => ⟨h.1, h.2 w' hw⟩
  | fuel + 1, listed, a, w, w', hw, h => by
    refine ⟨fun h0 => h.1 h0 w' hw, fun i hi => ?_⟩
    have h1 := h.2 i hi
    unfold mOp at h1
    split at h1
    · exact h1.elim
    · rename_i o ho
      rcases h1 with ⟨v, h2, h3⟩ | h2
      · exact h2.wpOp ho hw (wpAny_of_M fuel _ _ w w' hw h3)
      · exact wpOp_mono (fun a' w'' ⟨_, h3⟩ => wpAny_of_M fuel _ a' w'' w'' (mix_refl w'') h3) (wpOp_q (fun _ _ _ _ h => h.elim) (h2 w' hw))

/-- An operation apart from 'oi' comes up: whether 'oi''s value is there already makes no difference. -/
theorem wpOp_putJ {j : Nat} {oi oj : Oper} {v : Value} {J : Act → Prop} (hj : ops[j]? = some oj) (hap : oi.apart ops oj = true) (hsj : ∀ cs b, oj.op ≠ .select cs b)
    (hJ : ∀ a u, J a → J (a.put oj.dst u)) (hJd : ∀ (a : Act) d, J a → J { a with defers := d :: a.defers }) {K : Act → World → Prop} {a : Act} {w : World}
    (hy : J a) (h : wpOp P ops noQ j K (a.put oi.dst v) w) : wpOp P ops noQ j (fun a' w' => J a' ∧ K (a'.put oi.dst v) w') a w := by
  obtain ⟨h1, h2, -⟩ := Oper.apart_spec hap
  unfold wpOp at *
  simp only [hj] at *
  rw [wanted_put oj a oi.dst v h1] at h
  split
  · rename_i hw
    simp only [hw, if_true] at h
    rcases h with h | ⟨_, _, _, h⟩
    case inr => exact h.elim
    refine .inl ?_
    unfold Oper.wp at *
    rw [execOp_put oj hsj a oi.dst v h1] at h
    generalize (execOp a.eval oj).run P w = r at *
    cases r with
    | ok n w' =>
      cases n <;> simp only [Oper.upon] at h ⊢
      case value u => exact ⟨hJ _ _ hy, by rw [← Act.put_comm a v u h2]; exact h⟩
      case skip => exact ⟨hJ _ _ hy, by rw [← Act.put_comm a v undef h2]; exact h⟩
      case defer d =>
        refine ⟨hJ _ _ (hJd _ _ hy), ?_⟩
        rw [← Act.put_comm _ v undef h2, ← Act.put_defers]
        exact h
      case enter f args =>
        refine Calls.mono h fun e w'' he => ?_
        cases e with
        | returned u => exact ⟨hJ _ _ hy, by rw [← Act.put_comm a v u h2]; exact he⟩
        | panicked c => exact he
        | outgrown => exact he
      case row row args => exact Rows.mono h fun u w'' he => ⟨hJ _ _ hy, by rw [← Act.put_comm a v u h2]; exact he⟩
    | halt x w' =>
      cases x <;> simp only [Oper.upon] at h ⊢
      case panic u => exact h
  · rename_i hw
    simp only [hw] at h
    exact ⟨hJ _ _ hy, by rw [← Act.put_comm a v undef h2]; exact h⟩

theorem mOp_put {j : Nat} {oi oj : Oper} {v : Value} {w : World} (hj : ops[j]? = some oj) (hap : oi.apart ops oj = true)
    (hsi : ∀ cs b, oi.op ≠ .select cs b) (hsj : ∀ cs b, oj.op ≠ .select cs b) {K : Act → World → Prop} {a : Act}
    (hy : MY P ops w oi v a) (h : mOp P ops j K (a.put oi.dst v) w) : mOp P ops j (fun a' w' => MY P ops w' oi v a' ∧ K (a'.put oi.dst v) w') a w := by
  obtain ⟨h1, h2, h3⟩ := Oper.apart_spec hap
  have keep : ∀ (a : Act) u, MY P ops w oi v a → MY P ops w oi v (a.put oj.dst u) := fun a u hy =>
    hy.of_same (execOp_put oi hsi a oj.dst u h3) (wanted_put oi a oj.dst u h3)
  unfold mOp at *
  simp only [hj] at h ⊢
  rcases h with ⟨u, hu, hn⟩ | h
  · refine .inl ⟨u, hu.of_same (execOp_put oj hsj a oi.dst v h1).symm (wanted_put oj a oi.dst v h1).symm, keep a u hy, ?_⟩
    rw [← Act.put_comm a v u h2]; exact hn
  · refine .inr fun w' hw' => ?_
    refine wpOp_mono ?_ (wpOp_putJ (J := MY P ops w oi v) hj hap hsj keep (fun a d hy => hy.of_same rfl rfl) hy (h w' hw'))
    exact fun a' w'' ⟨h4, h5, h6⟩ => ⟨h5, h4.later h5, h6⟩

theorem wpAnyM_first {Q : Exit → Act → World → Prop} {i : Nat} {oi : Oper} {v : Value} (hi : ops[i]? = some oi) (hsel : ∀ (j : Nat) (o : Oper) cs b, ops[j]? = some o → o.op ≠ .select cs b) :
    ∀ (fuel : Nat) (listed : Array Bool) (a : Act) (w : World),
      (∀ j oj, ops[j]? = some oj → j ≠ i → listed.getD j true = false → (∀ e ∈ oj.after, Region.binds md e = true → e.on ≠ i) → oi.apart ops oj = true) →
      i ∈ Region.ready md ops listed → MY P ops w oi v a →
      wpAnyM P md ops Q fuel (listed.setIfInBounds i true) (a.put oi.dst v) w → wpAnyM P md ops Q (fuel + 1) listed a w := by
  have here : ∀ {K : Act → World → Prop} {a : Act} {w : World}, MY P ops w oi v a → K (a.put oi.dst v) w → mOp P ops i K a w := fun hy H => by
    unfold mOp; simp only [hi]; exact .inl ⟨v, hy, H⟩
  intro fuel
  induction fuel with
  | zero =>
    intro listed a w _ hr hy H
    refine ⟨fun h => (by rw [h] at hr; cases hr), fun j hj => ?_⟩
    by_cases hji : j = i
    · subst hji; exact here hy H
    · have := ready_mono hj hji
      rw [H.1] at this
      cases this
  | succ fuel ih =>
    intro listed a w hfree hr hy H
    refine ⟨fun h => (by rw [h] at hr; cases hr), fun j hj => ?_⟩
    by_cases hji : j = i
    · subst hji; exact here hy H
    · have h1 := H.2 j (ready_mono hj hji)
      obtain ⟨hjun, oj, hoj, hall⟩ := mem_ready.1 hj
      have hnot : ∀ e ∈ oj.after, Region.binds md e = true → e.on ≠ i := fun e he hb heq => by
        have h1 := hall e he hb
        have h0 := (mem_ready.1 hr).1
        rw [heq] at h1
        rcases Nat.lt_or_ge i listed.size with h' | h'
        · simp [h'] at h0 h1; rw [h0] at h1; cases h1
        · simp [Array.getElem?_eq_none h'] at h1
      have h2 := mOp_put hoj (hfree j oj hoj hji hjun hnot) (fun cs b => hsel i oi cs b hi) (fun cs b => hsel j oj cs b hoj) hy h1
      have hfree' : ∀ k ok, ops[k]? = some ok → k ≠ i → (listed.setIfInBounds j true).getD k true = false →
          (∀ e ∈ ok.after, Region.binds md e = true → e.on ≠ i) → oi.apart ops ok = true := fun k ok hk hki hun hno => by
        refine hfree k ok hk hki ?_ hno
        by_cases hjk : j = k
        · subst hjk; exact hjun
        · rw [getD_set_ne true hjk] at hun; exact hun
      refine mOp_mono (fun a' w' h3 => ih (listed.setIfInBounds j true) a' w' hfree' (ready_mono hr (Ne.symm hji)) h3.1 ?_) h2
      rw [Array.setIfInBounds_comm _ _ hji]
      exact h3.2
end

/-- The walk in the order that is laid. -/
def wpMix (P : Program) (l : List Oper) (Q : Exit → Act → World → Prop) : List Nat → Act → World → Prop
  | [], a, w => ∀ w', (∃ p : Regrown, w' = grow (redrawn w p.d) p.os) → Q .normal a w'
  | i :: rest, a, w => match l[i]? with
    | none => False
    | some o => if calm o then wpQuiet P l.toArray (fun w' => ∃ p : Regrown, w' = grow (redrawn w p.d) p.os) (fun a' => wpMix P l Q rest a' w) [o] a
      else ∀ w', (∃ p : Regrown, w' = grow (redrawn w p.d) p.os) → wpList P l.toArray (fun e a' w'' => e = .normal ∧ (∃ p : Regrown, w'' = grow (redrawn w p.d) p.os) ∧ wpMix P l Q rest a' w'') [o] a w'

def mixFrom (md : Region.Mode) (ops : Array Oper) : List Nat → Array Bool → Bool
  | [], listed => (Region.ready md ops listed).isEmpty
  | i :: rest, listed => (match ops[i]? with
    | none => false
    | some o => if calm o then (Region.ready md ops listed).contains i && Region.free md ops listed i else Region.ready md ops listed == [i]) && mixFrom md ops rest (listed.setIfInBounds i true)
def mixB (l : List Oper) (ord : List Nat) : Bool := Region.noSelect l.toArray && decide (ord.length = l.length) && mixFrom .any l.toArray ord (Array.replicate l.length false)

section
variable {P : Program} {l : List Oper} {Q : Exit → Act → World → Prop} {md : Region.Mode}

theorem wpAnyM_mix (hs : Region.noSelect l.toArray = true) : ∀ (ord : List Nat) (listed : Array Bool) (a : Act) (w : World), mixFrom md l.toArray ord listed = true → wpMix P l Q ord a w → wpAnyM P md l.toArray Q ord.length listed a w
  | [], listed, a, w, hB, h => ⟨by simpa [mixFrom] using hB, h⟩
  | i :: ord, listed, a, w, hB, h => by
    simp only [mixFrom, Bool.and_eq_true] at hB
    obtain ⟨hB1, hB2⟩ := hB
    have hll : l.toArray[i]? = l[i]? := by simp
    rw [hll] at hB1
    unfold wpMix at h
    cases ho : l[i]? with
    | none => rw [ho] at hB1; simp at hB1
    | some o =>
      rw [ho] at hB1 h
      rw [ho] at hll
      simp only [] at hB1 h
      by_cases hc : calm o = true
      · rw [if_pos hc] at hB1 h
        simp only [Bool.and_eq_true] at hB1
        obtain ⟨hr, hf⟩ := hB1
        have : ∃ v, MY P l.toArray w o v a ∧ wpMix P l Q ord (a.put o.dst v) w := by
          unfold wpQuiet at h
          by_cases hw : Region.wanted o (yielded l.toArray a.tmps) = true
          · rw [if_pos hw] at h
            obtain ⟨v, h1, h2⟩ := h
            refine ⟨v, .inl ⟨hw, fun w' hw' => ?_⟩, h2⟩
            have h3 := h1 w' hw'
            unfold Oper.quietAt at h3
            cases hr : (execOp a.eval o).run P w' with
            | ok n w2 =>
              rw [hr] at h3
              cases n <;> simp only [Oper.quietUpon] at h3
              case value u => obtain ⟨rfl, rfl⟩ := h3; exact .inl rfl
              case skip => obtain ⟨rfl, rfl⟩ := h3; exact .inr ⟨rfl, rfl⟩
              case enter f args => exact (calm_enter hc hr).elim
            | halt x w2 => rw [hr] at h3; simp only [Oper.quietUpon] at h3
          · rw [if_neg hw] at h
            exact ⟨undef, .inr ⟨by simpa using hw, rfl⟩, h⟩
        obtain ⟨v, hy, hK⟩ := this
        exact wpAnyM_first hll (Region.noSelect_spec hs) ord.length listed a w (Region.free_spec hll hf) (by simpa using hr) hy (wpAnyM_mix hs ord _ _ w hB2 hK)
      · rw [if_neg hc] at hB1 h
        have hr : Region.ready md l.toArray listed = [i] := by simpa using hB1
        refine ⟨fun h0 => (by rw [hr] at h0; cases h0), fun j hj => ?_⟩
        rw [hr, List.mem_singleton] at hj
        subst hj
        unfold mOp
        rw [hll]
        refine .inr fun w' hw' => ?_
        have h1 := h w' hw'
        unfold wpList at h1
        unfold wpOp
        rw [hll]
        simp only [] at h1 ⊢
        split
        · rename_i hw
          rw [if_pos hw] at h1
          rcases h1 with h1 | ⟨_, _, _, h1, _⟩
          · refine .inl (Oper.wp_q (Q := fun e a' w'' => e = .normal ∧ (∃ p : Regrown, w'' = grow (redrawn w p.d) p.os) ∧ wpMix P l Q ord a' w'') (fun e a w he hq => (he hq.1).elim) ?_)
            refine Oper.wp_mono ?_ h1
            exact fun a' w'' h2 => ⟨h2.2.1, wpAnyM_mix hs ord _ a' w'' hB2 h2.2.2⟩
          · cases h1
        · rename_i hw
          rw [if_neg hw] at h1
          exact ⟨h1.2.1, wpAnyM_mix hs ord _ _ w' hB2 h1.2.2⟩

/-- **One walk of an order that is laid serves every order.** -/
theorem wp_region_mix {id : Nat} {a : Act} {w : World} (ord : List Nat) (hm : P.follows .mixedOrders = true) (hB : mixB l ord = true) (h : wpMix P l Q ord a w) : (Code.region id l.toArray true).wp P Q a w := by
  simp only [mixB, Bool.and_eq_true, decide_eq_true_eq] at hB
  obtain ⟨⟨hs, hl⟩, hB⟩ := hB
  have hw : ∃ p : Regrown, ({ w with drawn := w.drawn + 1 } : World) = grow (redrawn w p.d) p.os := ⟨⟨w.drawn + 1, #[]⟩, by rw [grow_empty]; rfl⟩
  refine wp_region_any hm (wpAny_of_M _ _ _ _ _ hw ?_)
  have := wpAnyM_mix (md := .any) hs ord _ a w hB h
  rw [hl] at this
  simpa using this

theorem mix_end {a : Act} {w : World} (h : ∀ w', (∃ p : Regrown, w' = grow (redrawn w p.d) p.os) → Q .normal a w') : wpMix P l Q [] a w := h
theorem mix_calm {a : Act} {w : World} {i : Nat} {rest : List Nat} {o : Oper} {t : List Oper} (h0 : l.drop i = o :: t) (hc : calm o = true)
    (h : wpQuiet P l.toArray (fun w' => ∃ p : Regrown, w' = grow (redrawn w p.d) p.os) (fun a' => wpMix P l Q rest a' w) [o] a) : wpMix P l Q (i :: rest) a w := by
  have hl : l[i]? = some o := by have := congrArg (·[0]?) h0; simpa using this
  unfold wpMix
  rw [hl]
  simp only [hc, if_true]
  exact h
theorem mix_loud {a : Act} {w : World} {i : Nat} {rest : List Nat} {o : Oper} {t : List Oper} (h0 : l.drop i = o :: t) (hc : calm o = false)
    (h : ∀ d os, ∀ K : Exit → Act → World → Prop, (∀ a' w'', Below w.heap.size w w'' → wpMix P l Q rest a' w'' → K .normal a' w'') → wpList P l.toArray K [o] a (grow (redrawn w d) os)) : wpMix P l Q (i :: rest) a w := by
  have hl : l[i]? = some o := by have := congrArg (·[0]?) h0; simpa using this
  unfold wpMix
  rw [hl]
  simp only [hc, Bool.false_eq_true, if_false]
  rintro w' ⟨p, rfl⟩
  exact h p.d p.os _ fun a' w'' h1 h2 => ⟨rfl, mix_of_below h1, h2⟩
end
end Go.Proofs.YtedegdojbhegdaaDoor
