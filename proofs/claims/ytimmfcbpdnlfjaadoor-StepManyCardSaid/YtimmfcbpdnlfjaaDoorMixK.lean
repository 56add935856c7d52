/- A region that draws its order, whose operations either have their value at hand in every world that some calls may leave (reads, reckoning), or are CALLS of whatever contract that ends in 'Below': walked once, in an order that is laid: all that may come up and makes no call ahead of each call. A CALL MAY RETURN WHAT LIES ELSEWHERE FROM WORLD TO WORLD (a fresh slice). No program is named here, and nothing is assumed. As XMix, and calls that leave the world as it was and hand back the same in every world (M: their places) may come up in any order. No program is named here, and nothing is assumed. As XMixD, and a tail in the text's own order behind it: the last operations, each of which is ready alone, may do what they like. No program is named here, and nothing is assumed. As XMixD and XMixT, over any class of worlds in which some blocks (S) stand as they were: calls may write into the other blocks. No program is named here, and nothing is assumed. As XMixK, where some pure operations (N) are walked in the world as it is: such a one must be the only one that is ready. So a cell may be read and then written in one region. No program is named here, and nothing is assumed. -/
import Derived.Test.YtimmfcbpdnlfjaaDoorWords
import Derived.StillTail
import Derived.Lib.QuietBelow
namespace Go.Proofs.YtimmfcbpdnlfjaaDoor
open Go.RowKit Go.Sort

theorem mix_of_below {w w' : World} (h : Below w.heap.size w w') : ∃ p : Regrown, w' = grow (redrawn w p.d) p.os := regrown_of_below h
theorem below_of_mix {w w' : World} (h : ∃ p : Regrown, w' = grow (redrawn w p.d) p.os) : Below w.heap.size w w' := by
  obtain ⟨p, rfl⟩ := h
  exact below_regrown w p.d p.os
theorem mix_trans {w w' w'' : World} (h : ∃ p : Regrown, w' = grow (redrawn w p.d) p.os) (h' : ∃ p : Regrown, w'' = grow (redrawn w' p.d) p.os) : ∃ p : Regrown, w'' = grow (redrawn w p.d) p.os := by
  have b := below_of_mix h
  exact mix_of_below (b.trans ((below_of_mix h').mono b.size))
theorem mix_refl (w : World) : ∃ p : Regrown, w = grow (redrawn w p.d) p.os := mix_of_below (Below.refl _ _)

/-- It makes no call, whatever its operands are. -/
def calm (o : Oper) : Bool := match o.op with
  | .move _ | .assign _ | .pick _ _ _ | .load _ _ | .binOp _ _ _ _ _ | .unOp _ _ _ | .convert _ _ _ | .extract _ _ | .indexAddr _ _ _ | .index _ _ _ | .fieldAddr _ _ _ | .field _ _ _ | .makeInterface _ _ | .slice _ _ _ _ _ => true
  | .call c => match c.callee with
    | .builtin b => match b with | .len | .cap | .min | .max => true | _ => false
    | _ => false
  | _ => false

theorem run_val {P : Program} {w w' : World} {f : FuncId} {args : Array Value} (s : Sem Value) (h : (do pure (Next.value (← s)) : Sem Next).run P w = .ok (.enter f args) w') : False := by
  rw [Sem.run_bind] at h
  generalize s.run P w = r at h
  cases r with
  | ok v w1 => simp [Sem.run_pure] at h
  | halt x w1 => simp at h

theorem calm_enter {P : Program} {w w' : World} {f : FuncId} {args : Array Value} {o : Oper} {ρ : Operand → Value} (hc : calm o = true) (h : (execOp ρ o).run P w = .ok (.enter f args) w') : False := by
  unfold calm at hc
  unfold execOp at h
  split at hc
  case h_15 c hop =>
    simp only [hop] at h
    split at hc
    · rename_i b hcal
      unfold resolve at h
      simp only [hcal] at h
      rw [Sem.run_bind, Sem.run_pure, Result.andThen_ok] at h
      unfold invoke at h
      simp only [] at h
      unfold builtin at h
      split at hc
      all_goals first | exact run_val _ h | cases hc
    · cases hc
  case h_16 => cases hc
  all_goals (rename_i hop; simp only [hop] at h; first | exact run_val _ h | (simp [Sem.run_pure] at h; done) | (rw [Sem.run_bind] at h; revert h; generalize (Sem.run P (asBool _) w) = r; intro h; cases r <;> simp [Sem.run_pure] at h))

section
variable {P : Program} {ops : Array Oper} {md : Region.Mode}

def noQ : Exit → Act → World → Prop := fun _ _ _ => False

/-- What is asked behind an operation's ways out other than the plain one. -/
theorem Oper.wp_q {o : Oper} {a : Act} {w : World} {K : Act → World → Prop} {Q Q' : Exit → Act → World → Prop} (hq : ∀ e a w, e ≠ .normal → Q e a w → Q' e a w) (h : o.wp P a w K Q) : o.wp P a w K Q' := by
  unfold Oper.wp at *
  generalize (execOp a.eval o).run P w = r at *
  cases r with
  | ok n w' =>
    cases n <;> simp only [Oper.upon] at h ⊢
    case value u => exact h
    case skip => exact h
    case defer d => exact h
    case enter f args =>
      refine Calls.mono h fun e w'' he => ?_
      cases e with
      | returned u => exact he
      | panicked c => exact hq _ _ _ (by simp) he
      | outgrown => obtain ⟨a, w, h1⟩ := he; exact ⟨a, w, hq _ _ _ (by simp) h1⟩
    case row row args => exact h
  | halt x w' =>
    cases x <;> simp only [Oper.upon] at h ⊢
    case panic u => exact hq _ _ _ (by simp) h
theorem wpOp_q {i : Nat} {a : Act} {w : World} {K : Act → World → Prop} {Q Q' : Exit → Act → World → Prop} (hq : ∀ e a w, e ≠ .normal → Q e a w → Q' e a w) (h : wpOp P ops Q i K a w) : wpOp P ops Q' i K a w := by
  unfold wpOp at *
  split
  · rename_i ho; simp only [ho] at h; exact h
  · rename_i o ho
    simp only [ho] at h
    split
    · rename_i hw
      simp only [hw, if_true] at h
      rcases h with h | ⟨h1, a1, w1, h2⟩
      · exact .inl (Oper.wp_q hq h)
      · exact .inr ⟨h1, a1, w1, hq _ _ _ (by simp) h2⟩
    · rename_i hw; simp only [hw] at h; exact h

/-- In state 'a', in every world that some calls may leave, operation 'o' yields 'v', and does nothing else. -/
def MY (P : Program) (ops : Array Oper) (w : World) (o : Oper) (v : Value) (a : Act) : Prop :=
  (Region.wanted o (yielded ops a.tmps) = true ∧ ∀ w', (∃ p : Regrown, w' = grow (redrawn w p.d) p.os) → (execOp a.eval o).run P w' = .ok (.value v) w' ∨ ((execOp a.eval o).run P w' = .ok .skip w' ∧ v = undef)) ∨
  (Region.wanted o (yielded ops a.tmps) = false ∧ v = undef)
theorem MY.of_same {w : World} {o : Oper} {v : Value} {a a' : Act} (hy : MY P ops w o v a) (he : execOp a'.eval o = execOp a.eval o)
    (hw : Region.wanted o (yielded ops a'.tmps) = Region.wanted o (yielded ops a.tmps)) : MY P ops w o v a' := by
  unfold MY at *
  rw [he, hw]
  exact hy
theorem MY.later {w w1 : World} {o : Oper} {v : Value} {a : Act} (hy : MY P ops w o v a) (h : ∃ p : Regrown, w1 = grow (redrawn w p.d) p.os) : MY P ops w1 o v a := by
  rcases hy with ⟨h1, h2⟩ | h1
  · exact .inl ⟨h1, fun w' hw' => h2 w' (mix_trans h hw')⟩
  · exact .inr h1
theorem MY.wpOp {w w' : World} {i : Nat} {o : Oper} {v : Value} {a : Act} {Q : Exit → Act → World → Prop} (hi : ops[i]? = some o) (hy : MY P ops w o v a) (hw : ∃ p : Regrown, w' = grow (redrawn w p.d) p.os)
    {K : Act → World → Prop} (h : K (a.put o.dst v) w') : wpOp P ops Q i K a w' := by
  unfold Go.wpOp
  simp only [hi]
  rcases hy with ⟨h1, h2⟩ | ⟨h1, rfl⟩
  · rcases h2 w' hw with h3 | ⟨h3, rfl⟩
    · simp only [h1, if_true, Oper.wp, h3, Oper.upon]; exact .inl h
    · simp only [h1, if_true, Oper.wp, h3, Oper.upon]; exact .inl h
  · simp only [h1, Bool.false_eq_true, if_false]; exact h

def mOp (P : Program) (ops : Array Oper) (i : Nat) (K : Act → World → Prop) (a : Act) (w : World) : Prop :=
  match ops[i]? with
  | none => False
  | some o => (∃ v, MY P ops w o v a ∧ K (a.put o.dst v) w) ∨ (∀ w', (∃ p : Regrown, w' = grow (redrawn w p.d) p.os) → wpOp P ops noQ i (fun a' w'' => (∃ p : Regrown, w'' = grow (redrawn w p.d) p.os) ∧ K a' w'') a w')

theorem mOp_mono {i : Nat} {K K' : Act → World → Prop} {a : Act} {w : World} (h : ∀ a w, K a w → K' a w) (hh : mOp P ops i K a w) : mOp P ops i K' a w := by
  unfold mOp at *
  split
  · rename_i ho; simp only [ho] at hh
  · rename_i o ho
    simp only [ho] at hh
    rcases hh with ⟨v, h1, h2⟩ | h1
    · exact .inl ⟨v, h1, h _ _ h2⟩
    · exact .inr fun w' hw' => wpOp_mono (fun a w ⟨h2, h3⟩ => ⟨h2, h _ _ h3⟩) (h1 w' hw')

def wpAnyM (P : Program) (md : Region.Mode) (ops : Array Oper) (Q : Exit → Act → World → Prop) : Nat → Array Bool → Act → World → Prop
  | 0, listed, a, w => Region.ready md ops listed = [] ∧ ∀ w', (∃ p : Regrown, w' = grow (redrawn w p.d) p.os) → Q .normal a w'
  | fuel + 1, listed, a, w => (Region.ready md ops listed = [] → ∀ w', (∃ p : Regrown, w' = grow (redrawn w p.d) p.os) → Q .normal a w') ∧
    ∀ i ∈ Region.ready md ops listed, mOp P ops i (wpAnyM P md ops Q fuel (listed.setIfInBounds i true)) a w

theorem wpAny_of_M {Q : Exit → Act → World → Prop} : ∀ (fuel : Nat) (listed : Array Bool) (a : Act) (w w' : World), (∃ p : Regrown, w' = grow (redrawn w p.d) p.os) → wpAnyM P md ops Q fuel listed a w → wpAny P md ops Q fuel listed a w'
  | 0, _, _, _, w', hw, h => ⟨h.1, h.2 w' hw⟩
  | fuel + 1, listed, a, w, w', hw, h => by
    refine ⟨fun h0 => h.1 h0 w' hw, fun i hi => ?_⟩
    have h1 := h.2 i hi
    unfold mOp at h1
    split at h1
    · exact h1.elim
    · rename_i o ho
      rcases h1 with ⟨v, h2, h3⟩ | h2
      · exact h2.wpOp ho hw (wpAny_of_M fuel _ _ w w' hw h3)
      · exact wpOp_mono (fun a' w'' ⟨_, h3⟩ => wpAny_of_M fuel _ a' w'' w'' (mix_refl w'') h3) (wpOp_q (fun _ _ _ _ h => h.elim) (h2 w' hw))

/-- An operation apart from 'oi' comes up: whether 'oi''s value is there already makes no difference. -/
theorem wpOp_putJ {j : Nat} {oi oj : Oper} {v : Value} {J : Act → Prop} (hj : ops[j]? = some oj) (hap : oi.apart ops oj = true) (hsj : ∀ cs b, oj.op ≠ .select cs b)
    (hJ : ∀ a u, J a → J (a.put oj.dst u)) (hJd : ∀ (a : Act) d, J a → J { a with defers := d :: a.defers }) {K : Act → World → Prop} {a : Act} {w : World}
    (hy : J a) (h : wpOp P ops noQ j K (a.put oi.dst v) w) : wpOp P ops noQ j (fun a' w' => J a' ∧ K (a'.put oi.dst v) w') a w := by
  obtain ⟨h1, h2, -⟩ := Oper.apart_spec hap
  unfold wpOp at *
  simp only [hj] at *
  rw [wanted_put oj a oi.dst v h1] at h
  split
  · rename_i hw
    simp only [hw, if_true] at h
    rcases h with h | ⟨_, _, _, h⟩
    case inr => exact h.elim
    refine .inl ?_
    unfold Oper.wp at *
    rw [execOp_put oj hsj a oi.dst v h1] at h
    generalize (execOp a.eval oj).run P w = r at *
    cases r with
    | ok n w' =>
      cases n <;> simp only [Oper.upon] at h ⊢
      case value u => exact ⟨hJ _ _ hy, by rw [← Act.put_comm a v u h2]; exact h⟩
      case skip => exact ⟨hJ _ _ hy, by rw [← Act.put_comm a v undef h2]; exact h⟩
      case defer d =>
        refine ⟨hJ _ _ (hJd _ _ hy), ?_⟩
        rw [← Act.put_comm _ v undef h2, ← Act.put_defers]
        exact h
      case enter f args =>
        refine Calls.mono h fun e w'' he => ?_
        cases e with
        | returned u => exact ⟨hJ _ _ hy, by rw [← Act.put_comm a v u h2]; exact he⟩
        | panicked c => exact he
        | outgrown => exact he
      case row row args => exact Rows.mono h fun u w'' he => ⟨hJ _ _ hy, by rw [← Act.put_comm a v u h2]; exact he⟩
    | halt x w' =>
      cases x <;> simp only [Oper.upon] at h ⊢
      case panic u => exact h
  · rename_i hw
    simp only [hw] at h
    exact ⟨hJ _ _ hy, by rw [← Act.put_comm a v undef h2]; exact h⟩

theorem mOp_put {j : Nat} {oi oj : Oper} {v : Value} {w : World} (hj : ops[j]? = some oj) (hap : oi.apart ops oj = true)
    (hsi : ∀ cs b, oi.op ≠ .select cs b) (hsj : ∀ cs b, oj.op ≠ .select cs b) {K : Act → World → Prop} {a : Act}
    (hy : MY P ops w oi v a) (h : mOp P ops j K (a.put oi.dst v) w) : mOp P ops j (fun a' w' => MY P ops w' oi v a' ∧ K (a'.put oi.dst v) w') a w := by
  obtain ⟨h1, h2, h3⟩ := Oper.apart_spec hap
  have keep : ∀ (a : Act) u, MY P ops w oi v a → MY P ops w oi v (a.put oj.dst u) := fun a u hy =>
    hy.of_same (execOp_put oi hsi a oj.dst u h3) (wanted_put oi a oj.dst u h3)
  unfold mOp at *
  simp only [hj] at h ⊢
  rcases h with ⟨u, hu, hn⟩ | h
  · refine .inl ⟨u, hu.of_same (execOp_put oj hsj a oi.dst v h1).symm (wanted_put oj a oi.dst v h1).symm, keep a u hy, ?_⟩
    rw [← Act.put_comm a v u h2]; exact hn
  · refine .inr fun w' hw' => ?_
    refine wpOp_mono ?_ (wpOp_putJ (J := MY P ops w oi v) hj hap hsj keep (fun a d hy => hy.of_same rfl rfl) hy (h w' hw'))
    exact fun a' w'' ⟨h4, h5, h6⟩ => ⟨h5, h4.later h5, h6⟩

theorem wpAnyM_first {Q : Exit → Act → World → Prop} {i : Nat} {oi : Oper} {v : Value} (hi : ops[i]? = some oi) (hsel : ∀ (j : Nat) (o : Oper) cs b, ops[j]? = some o → o.op ≠ .select cs b) :
    ∀ (fuel : Nat) (listed : Array Bool) (a : Act) (w : World),
      (∀ j oj, ops[j]? = some oj → j ≠ i → listed.getD j true = false → (∀ e ∈ oj.after, Region.binds md e = true → e.on ≠ i) → oi.apart ops oj = true) →
      i ∈ Region.ready md ops listed → MY P ops w oi v a →
      wpAnyM P md ops Q fuel (listed.setIfInBounds i true) (a.put oi.dst v) w → wpAnyM P md ops Q (fuel + 1) listed a w := by
  have here : ∀ {K : Act → World → Prop} {a : Act} {w : World}, MY P ops w oi v a → K (a.put oi.dst v) w → mOp P ops i K a w := fun hy H => by
    unfold mOp; simp only [hi]; exact .inl ⟨v, hy, H⟩
  intro fuel
  induction fuel with
  | zero =>
    intro listed a w _ hr hy H
    refine ⟨fun h => (by rw [h] at hr; cases hr), fun j hj => ?_⟩
    by_cases hji : j = i
    · subst hji; exact here hy H
    · have := ready_mono hj hji
      rw [H.1] at this
      cases this
  | succ fuel ih =>
    intro listed a w hfree hr hy H
    refine ⟨fun h => (by rw [h] at hr; cases hr), fun j hj => ?_⟩
    by_cases hji : j = i
    · subst hji; exact here hy H
    · have h1 := H.2 j (ready_mono hj hji)
      obtain ⟨hjun, oj, hoj, hall⟩ := mem_ready.1 hj
      have hnot : ∀ e ∈ oj.after, Region.binds md e = true → e.on ≠ i := fun e he hb heq => by
        have h1 := hall e he hb
        have h0 := (mem_ready.1 hr).1
        rw [heq] at h1
        rcases Nat.lt_or_ge i listed.size with h' | h'
        · simp [h'] at h0 h1; rw [h0] at h1; cases h1
        · simp [Array.getElem?_eq_none h'] at h1
      have h2 := mOp_put hoj (hfree j oj hoj hji hjun hnot) (fun cs b => hsel i oi cs b hi) (fun cs b => hsel j oj cs b hoj) hy h1
      have hfree' : ∀ k ok, ops[k]? = some ok → k ≠ i → (listed.setIfInBounds j true).getD k true = false →
          (∀ e ∈ ok.after, Region.binds md e = true → e.on ≠ i) → oi.apart ops ok = true := fun k ok hk hki hun hno => by
        refine hfree k ok hk hki ?_ hno
        by_cases hjk : j = k
        · subst hjk; exact hjun
        · rw [getD_set_ne true hjk] at hun; exact hun
      refine mOp_mono (fun a' w' h3 => ih (listed.setIfInBounds j true) a' w' hfree' (ready_mono hr (Ne.symm hji)) h3.1 ?_) h2
      rw [Array.setIfInBounds_comm _ _ hji]
      exact h3.2
end

/-- The walk in the order that is laid. -/
def wpMix (P : Program) (l : List Oper) (Q : Exit → Act → World → Prop) : List Nat → Act → World → Prop
  | [], a, w => ∀ w', (∃ p : Regrown, w' = grow (redrawn w p.d) p.os) → Q .normal a w'
  | i :: rest, a, w => match l[i]? with
    | none => False
    | some o => if calm o then wpQuiet P l.toArray (fun w' => ∃ p : Regrown, w' = grow (redrawn w p.d) p.os) (fun a' => wpMix P l Q rest a' w) [o] a
      else ∀ w', (∃ p : Regrown, w' = grow (redrawn w p.d) p.os) → wpList P l.toArray (fun e a' w'' => e = .normal ∧ (∃ p : Regrown, w'' = grow (redrawn w p.d) p.os) ∧ wpMix P l Q rest a' w'') [o] a w'

def mixFrom (md : Region.Mode) (ops : Array Oper) : List Nat → Array Bool → Bool
  | [], listed => (Region.ready md ops listed).isEmpty
  | i :: rest, listed => (match ops[i]? with
    | none => false
    | some o => if calm o then (Region.ready md ops listed).contains i && Region.free md ops listed i else Region.ready md ops listed == [i]) && mixFrom md ops rest (listed.setIfInBounds i true)
def mixB (l : List Oper) (ord : List Nat) : Bool := Region.noSelect l.toArray && decide (ord.length = l.length) && mixFrom .any l.toArray ord (Array.replicate l.length false)

section
variable {P : Program} {l : List Oper} {Q : Exit → Act → World → Prop} {md : Region.Mode}

theorem wpAnyM_mix (hs : Region.noSelect l.toArray = true) : ∀ (ord : List Nat) (listed : Array Bool) (a : Act) (w : World), mixFrom md l.toArray ord listed = true → wpMix P l Q ord a w → wpAnyM P md l.toArray Q ord.length listed a w
  | [], listed, a, w, hB, h => ⟨by simpa [mixFrom] using hB, h⟩
  | i :: ord, listed, a, w, hB, h => by
    simp only [mixFrom, Bool.and_eq_true] at hB
    obtain ⟨hB1, hB2⟩ := hB
    have hll : l.toArray[i]? = l[i]? := by simp
    rw [hll] at hB1
    unfold wpMix at h
    cases ho : l[i]? with
    | none => rw [ho] at hB1; simp at hB1
    | some o =>
      rw [ho] at hB1 h
      rw [ho] at hll
      simp only [] at hB1 h
      by_cases hc : calm o = true
      · rw [if_pos hc] at hB1 h
        simp only [Bool.and_eq_true] at hB1
        obtain ⟨hr, hf⟩ := hB1
        have : ∃ v, MY P l.toArray w o v a ∧ wpMix P l Q ord (a.put o.dst v) w := by
          unfold wpQuiet at h
          by_cases hw : Region.wanted o (yielded l.toArray a.tmps) = true
          · rw [if_pos hw] at h
            obtain ⟨v, h1, h2⟩ := h
            refine ⟨v, .inl ⟨hw, fun w' hw' => ?_⟩, h2⟩
            have h3 := h1 w' hw'
            unfold Oper.quietAt at h3
            cases hr : (execOp a.eval o).run P w' with
            | ok n w2 =>
              rw [hr] at h3
              cases n <;> simp only [Oper.quietUpon] at h3
              case value u => obtain ⟨rfl, rfl⟩ := h3; exact .inl rfl
              case skip => obtain ⟨rfl, rfl⟩ := h3; exact .inr ⟨rfl, rfl⟩
              case enter f args => exact (calm_enter hc hr).elim
            | halt x w2 => rw [hr] at h3; simp only [Oper.quietUpon] at h3
          · rw [if_neg hw] at h
            exact ⟨undef, .inr ⟨by simpa using hw, rfl⟩, h⟩
        obtain ⟨v, hy, hK⟩ := this
        exact wpAnyM_first hll (Region.noSelect_spec hs) ord.length listed a w (Region.free_spec hll hf) (by simpa using hr) hy (wpAnyM_mix hs ord _ _ w hB2 hK)
      · rw [if_neg hc] at hB1 h
        have hr : Region.ready md l.toArray listed = [i] := by simpa using hB1
        refine ⟨fun h0 => (by rw [hr] at h0; cases h0), fun j hj => ?_⟩
        rw [hr, List.mem_singleton] at hj
        subst hj
        unfold mOp
        rw [hll]
        refine .inr fun w' hw' => ?_
        have h1 := h w' hw'
        unfold wpList at h1
        unfold wpOp
        rw [hll]
        simp only [] at h1 ⊢
        split
        · rename_i hw
          rw [if_pos hw] at h1
          rcases h1 with h1 | ⟨_, _, _, h1, _⟩
          · refine .inl (Oper.wp_q (Q := fun e a' w'' => e = .normal ∧ (∃ p : Regrown, w'' = grow (redrawn w p.d) p.os) ∧ wpMix P l Q ord a' w'') (fun e a w he hq => (he hq.1).elim) ?_)
            refine Oper.wp_mono ?_ h1
            exact fun a' w'' h2 => ⟨h2.2.1, wpAnyM_mix hs ord _ a' w'' hB2 h2.2.2⟩
          · cases h1
        · rename_i hw
          rw [if_neg hw] at h1
          exact ⟨h1.2.1, wpAnyM_mix hs ord _ _ w' hB2 h1.2.2⟩

/-- **One walk of an order that is laid serves every order.** -/
theorem wp_region_mix {id : Nat} {a : Act} {w : World} (ord : List Nat) (hm : P.follows .mixedOrders = true) (hB : mixB l ord = true) (h : wpMix P l Q ord a w) : (Code.region id l.toArray true).wp P Q a w := by
  simp only [mixB, Bool.and_eq_true, decide_eq_true_eq] at hB
  obtain ⟨⟨hs, hl⟩, hB⟩ := hB
  have hw : ∃ p : Regrown, ({ w with drawn := w.drawn + 1 } : World) = grow (redrawn w p.d) p.os := ⟨⟨w.drawn + 1, #[]⟩, by rw [grow_empty]; rfl⟩
  refine wp_region_any hm (wpAny_of_M _ _ _ _ _ hw ?_)
  have := wpAnyM_mix (md := .any) hs ord _ a w hB h
  rw [hl] at this
  simpa using this

theorem mix_end {a : Act} {w : World} (h : ∀ w', (∃ p : Regrown, w' = grow (redrawn w p.d) p.os) → Q .normal a w') : wpMix P l Q [] a w := h
theorem mix_calm {a : Act} {w : World} {i : Nat} {rest : List Nat} {o : Oper} {t : List Oper} (h0 : l.drop i = o :: t) (hc : calm o = true)
    (h : wpQuiet P l.toArray (fun w' => ∃ p : Regrown, w' = grow (redrawn w p.d) p.os) (fun a' => wpMix P l Q rest a' w) [o] a) : wpMix P l Q (i :: rest) a w := by
  have hl : l[i]? = some o := by have := congrArg (·[0]?) h0; simpa using this
  unfold wpMix
  rw [hl]
  simp only [hc, if_true]
  exact h
theorem mix_loud {a : Act} {w : World} {i : Nat} {rest : List Nat} {o : Oper} {t : List Oper} (h0 : l.drop i = o :: t) (hc : calm o = false)
    (h : ∀ d os, ∀ K : Exit → Act → World → Prop, (∀ a' w'', Below w.heap.size w w'' → wpMix P l Q rest a' w'' → K .normal a' w'') → wpList P l.toArray K [o] a (grow (redrawn w d) os)) : wpMix P l Q (i :: rest) a w := by
  have hl : l[i]? = some o := by have := congrArg (·[0]?) h0; simpa using this
  unfold wpMix
  rw [hl]
  simp only [hc, Bool.false_eq_true, if_false]
  rintro w' ⟨p, rfl⟩
  exact h p.d p.os _ fun a' w'' h1 h2 => ⟨rfl, mix_of_below h1, h2⟩
end
end Go.Proofs.YtimmfcbpdnlfjaaDoor

namespace Go.Proofs.YtimmfcbpdnlfjaaDoor
open Go.RowKit Go.Sort

section
variable {P : Program} {ops : Array Oper} {md : Region.Mode}

/-- In state 'a', in every world that some calls may leave, operation 'o' yields 'v', and does nothing else. -/
def MYD (P : Program) (ops : Array Oper) (w : World) (o : Oper) (v : Value) (a : Act) : Prop :=
  (Region.wanted o (yielded ops a.tmps) = true ∧ ∀ w', (∃ p : Regrown, w' = grow (redrawn w p.d) p.os) → (execOp a.eval o).run P w' = .ok (.value v) w' ∨ ((execOp a.eval o).run P w' = .ok .skip w' ∧ v = undef) ∨ (∃ f args, (execOp a.eval o).run P w' = .ok (.enter f args) w' ∧ Calls P f args w' fun e w'' => e = .returned v ∧ w'' = w')) ∨
  (Region.wanted o (yielded ops a.tmps) = false ∧ v = undef)
theorem MYD.of_same {w : World} {o : Oper} {v : Value} {a a' : Act} (hy : MYD P ops w o v a) (he : execOp a'.eval o = execOp a.eval o)
    (hw : Region.wanted o (yielded ops a'.tmps) = Region.wanted o (yielded ops a.tmps)) : MYD P ops w o v a' := by
  unfold MYD at *
  rw [he, hw]
  exact hy
theorem MYD.later {w w1 : World} {o : Oper} {v : Value} {a : Act} (hy : MYD P ops w o v a) (h : ∃ p : Regrown, w1 = grow (redrawn w p.d) p.os) : MYD P ops w1 o v a := by
  rcases hy with ⟨h1, h2⟩ | h1
  · exact .inl ⟨h1, fun w' hw' => h2 w' (mix_trans h hw')⟩
  · exact .inr h1
theorem MYD.wpOp {w w' : World} {i : Nat} {o : Oper} {v : Value} {a : Act} {Q : Exit → Act → World → Prop} (hi : ops[i]? = some o) (hy : MYD P ops w o v a) (hw : ∃ p : Regrown, w' = grow (redrawn w p.d) p.os)
    {K : Act → World → Prop} (h : K (a.put o.dst v) w') : wpOp P ops Q i K a w' := by
  unfold Go.wpOp
  simp only [hi]
  rcases hy with ⟨h1, h2⟩ | ⟨h1, rfl⟩
  · rcases h2 w' hw with h3 | ⟨h3, rfl⟩ | ⟨f, args, h3, h4⟩
    · simp only [h1, if_true, Oper.wp, h3, Oper.upon]; exact .inl h
    · simp only [h1, if_true, Oper.wp, h3, Oper.upon]; exact .inl h
    · simp only [h1, if_true, Oper.wp, h3, Oper.upon]
      exact .inl (Calls.mono h4 fun e w'' he => by obtain ⟨rfl, rfl⟩ := he; exact h)
  · simp only [h1, Bool.false_eq_true, if_false]; exact h

def mOpD (P : Program) (ops : Array Oper) (i : Nat) (K : Act → World → Prop) (a : Act) (w : World) : Prop :=
  match ops[i]? with
  | none => False
  | some o => (∃ v, MYD P ops w o v a ∧ K (a.put o.dst v) w) ∨ (∀ w', (∃ p : Regrown, w' = grow (redrawn w p.d) p.os) → wpOp P ops noQ i (fun a' w'' => (∃ p : Regrown, w'' = grow (redrawn w p.d) p.os) ∧ K a' w'') a w')

theorem mOp_monoD {i : Nat} {K K' : Act → World → Prop} {a : Act} {w : World} (h : ∀ a w, K a w → K' a w) (hh : mOpD P ops i K a w) : mOpD P ops i K' a w := by
  unfold mOpD at *
  split
  · rename_i ho; simp only [ho] at hh
  · rename_i o ho
    simp only [ho] at hh
    rcases hh with ⟨v, h1, h2⟩ | h1
    · exact .inl ⟨v, h1, h _ _ h2⟩
    · exact .inr fun w' hw' => wpOp_mono (fun a w ⟨h2, h3⟩ => ⟨h2, h _ _ h3⟩) (h1 w' hw')

def wpAnyMD (P : Program) (md : Region.Mode) (ops : Array Oper) (Q : Exit → Act → World → Prop) : Nat → Array Bool → Act → World → Prop
  | 0, listed, a, w => Region.ready md ops listed = [] ∧ ∀ w', (∃ p : Regrown, w' = grow (redrawn w p.d) p.os) → Q .normal a w'
  | fuel + 1, listed, a, w => (Region.ready md ops listed = [] → ∀ w', (∃ p : Regrown, w' = grow (redrawn w p.d) p.os) → Q .normal a w') ∧
    ∀ i ∈ Region.ready md ops listed, mOpD P ops i (wpAnyMD P md ops Q fuel (listed.setIfInBounds i true)) a w

theorem wpAny_of_MD {Q : Exit → Act → World → Prop} : ∀ (fuel : Nat) (listed : Array Bool) (a : Act) (w w' : World), (∃ p : Regrown, w' = grow (redrawn w p.d) p.os) → wpAnyMD P md ops Q fuel listed a w → wpAny P md ops Q fuel listed a w'
  | 0, _, _, _, w', hw, h => ⟨h.1, h.2 w' hw⟩
  | fuel + 1, listed, a, w, w', hw, h => by
    refine ⟨fun h0 => h.1 h0 w' hw, fun i hi => ?_⟩
    have h1 := h.2 i hi
    unfold mOpD at h1
    split at h1
    · exact h1.elim
    · rename_i o ho
      rcases h1 with ⟨v, h2, h3⟩ | h2
      · exact h2.wpOp ho hw (wpAny_of_MD fuel _ _ w w' hw h3)
      · exact wpOp_mono (fun a' w'' ⟨_, h3⟩ => wpAny_of_MD fuel _ a' w'' w'' (mix_refl w'') h3) (wpOp_q (fun _ _ _ _ h => h.elim) (h2 w' hw))

theorem mOp_putD {j : Nat} {oi oj : Oper} {v : Value} {w : World} (hj : ops[j]? = some oj) (hap : oi.apart ops oj = true)
    (hsi : ∀ cs b, oi.op ≠ .select cs b) (hsj : ∀ cs b, oj.op ≠ .select cs b) {K : Act → World → Prop} {a : Act}
    (hy : MYD P ops w oi v a) (h : mOpD P ops j K (a.put oi.dst v) w) : mOpD P ops j (fun a' w' => MYD P ops w' oi v a' ∧ K (a'.put oi.dst v) w') a w := by
  obtain ⟨h1, h2, h3⟩ := Oper.apart_spec hap
  have keep : ∀ (a : Act) u, MYD P ops w oi v a → MYD P ops w oi v (a.put oj.dst u) := fun a u hy =>
    hy.of_same (execOp_put oi hsi a oj.dst u h3) (wanted_put oi a oj.dst u h3)
  unfold mOpD at *
  simp only [hj] at h ⊢
  rcases h with ⟨u, hu, hn⟩ | h
  · refine .inl ⟨u, hu.of_same (execOp_put oj hsj a oi.dst v h1).symm (wanted_put oj a oi.dst v h1).symm, keep a u hy, ?_⟩
    rw [← Act.put_comm a v u h2]; exact hn
  · refine .inr fun w' hw' => ?_
    refine wpOp_mono ?_ (wpOp_putJ (J := MYD P ops w oi v) hj hap hsj keep (fun a d hy => hy.of_same rfl rfl) hy (h w' hw'))
    exact fun a' w'' ⟨h4, h5, h6⟩ => ⟨h5, h4.later h5, h6⟩

theorem wpAnyM_firstD {Q : Exit → Act → World → Prop} {i : Nat} {oi : Oper} {v : Value} (hi : ops[i]? = some oi) (hsel : ∀ (j : Nat) (o : Oper) cs b, ops[j]? = some o → o.op ≠ .select cs b) :
    ∀ (fuel : Nat) (listed : Array Bool) (a : Act) (w : World),
      (∀ j oj, ops[j]? = some oj → j ≠ i → listed.getD j true = false → (∀ e ∈ oj.after, Region.binds md e = true → e.on ≠ i) → oi.apart ops oj = true) →
      i ∈ Region.ready md ops listed → MYD P ops w oi v a →
      wpAnyMD P md ops Q fuel (listed.setIfInBounds i true) (a.put oi.dst v) w → wpAnyMD P md ops Q (fuel + 1) listed a w := by
  have here : ∀ {K : Act → World → Prop} {a : Act} {w : World}, MYD P ops w oi v a → K (a.put oi.dst v) w → mOpD P ops i K a w := fun hy H => by
    unfold mOpD; simp only [hi]; exact .inl ⟨v, hy, H⟩
  intro fuel
  induction fuel with
  | zero =>
    intro listed a w _ hr hy H
    refine ⟨fun h => (by rw [h] at hr; cases hr), fun j hj => ?_⟩
    by_cases hji : j = i
    · subst hji; exact here hy H
    · have := ready_mono hj hji
      rw [H.1] at this
      cases this
  | succ fuel ih =>
    intro listed a w hfree hr hy H
    refine ⟨fun h => (by rw [h] at hr; cases hr), fun j hj => ?_⟩
    by_cases hji : j = i
    · subst hji; exact here hy H
    · have h1 := H.2 j (ready_mono hj hji)
      obtain ⟨hjun, oj, hoj, hall⟩ := mem_ready.1 hj
      have hnot : ∀ e ∈ oj.after, Region.binds md e = true → e.on ≠ i := fun e he hb heq => by
        have h1 := hall e he hb
        have h0 := (mem_ready.1 hr).1
        rw [heq] at h1
        rcases Nat.lt_or_ge i listed.size with h' | h'
        · simp [h'] at h0 h1; rw [h0] at h1; cases h1
        · simp [Array.getElem?_eq_none h'] at h1
      have h2 := mOp_putD hoj (hfree j oj hoj hji hjun hnot) (fun cs b => hsel i oi cs b hi) (fun cs b => hsel j oj cs b hoj) hy h1
      have hfree' : ∀ k ok, ops[k]? = some ok → k ≠ i → (listed.setIfInBounds j true).getD k true = false →
          (∀ e ∈ ok.after, Region.binds md e = true → e.on ≠ i) → oi.apart ops ok = true := fun k ok hk hki hun hno => by
        refine hfree k ok hk hki ?_ hno
        by_cases hjk : j = k
        · subst hjk; exact hjun
        · rw [getD_set_ne true hjk] at hun; exact hun
      refine mOp_monoD (fun a' w' h3 => ih (listed.setIfInBounds j true) a' w' hfree' (ready_mono hr (Ne.symm hji)) h3.1 ?_) h2
      rw [Array.setIfInBounds_comm _ _ hji]
      exact h3.2
end

/-- The walk in the order that is laid. -/
def wpMixD (P : Program) (M : List Nat) (l : List Oper) (Q : Exit → Act → World → Prop) : List Nat → Act → World → Prop
  | [], a, w => ∀ w', (∃ p : Regrown, w' = grow (redrawn w p.d) p.os) → Q .normal a w'
  | i :: rest, a, w => match l[i]? with
    | none => False
    | some o => if calm o then wpQuiet P l.toArray (fun w' => ∃ p : Regrown, w' = grow (redrawn w p.d) p.os) (fun a' => wpMixD P M l Q rest a' w) [o] a
      else if M.contains i then ∃ v f args, Region.wanted o (yielded l.toArray a.tmps) = true ∧ (∀ w', (execOp a.eval o).run P w' = .ok (.enter f args) w') ∧ (∀ w', Calls P f args w' fun e w'' => e = .returned v ∧ w'' = w') ∧ wpMixD P M l Q rest (a.put o.dst v) w
      else ∀ w', (∃ p : Regrown, w' = grow (redrawn w p.d) p.os) → wpList P l.toArray (fun e a' w'' => e = .normal ∧ (∃ p : Regrown, w'' = grow (redrawn w p.d) p.os) ∧ wpMixD P M l Q rest a' w'') [o] a w'

def mixFromD (M : List Nat) (md : Region.Mode) (ops : Array Oper) : List Nat → Array Bool → Bool
  | [], listed => (Region.ready md ops listed).isEmpty
  | i :: rest, listed => (match ops[i]? with
    | none => false
    | some o => if calm o || M.contains i then (Region.ready md ops listed).contains i && Region.free md ops listed i else Region.ready md ops listed == [i]) && mixFromD M md ops rest (listed.setIfInBounds i true)
def mixBD (M : List Nat) (l : List Oper) (ord : List Nat) : Bool := Region.noSelect l.toArray && decide (ord.length = l.length) && mixFromD M .any l.toArray ord (Array.replicate l.length false)

section
variable {P : Program} {M : List Nat} {l : List Oper} {Q : Exit → Act → World → Prop} {md : Region.Mode}

theorem wpAnyM_mixD (hs : Region.noSelect l.toArray = true) : ∀ (ord : List Nat) (listed : Array Bool) (a : Act) (w : World), mixFromD M md l.toArray ord listed = true → wpMixD P M l Q ord a w → wpAnyMD P md l.toArray Q ord.length listed a w
  | [], listed, a, w, hB, h => ⟨by simpa [mixFromD] using hB, h⟩
  | i :: ord, listed, a, w, hB, h => by
    simp only [mixFromD, Bool.and_eq_true] at hB
    obtain ⟨hB1, hB2⟩ := hB
    have hll : l.toArray[i]? = l[i]? := by simp
    rw [hll] at hB1
    unfold wpMixD at h
    cases ho : l[i]? with
    | none => rw [ho] at hB1; simp at hB1
    | some o =>
      rw [ho] at hB1 h
      rw [ho] at hll
      simp only [] at hB1 h
      by_cases hc : calm o = true
      · rw [if_pos (by rw [hc]; rfl)] at hB1
        rw [if_pos hc] at h
        simp only [Bool.and_eq_true] at hB1
        obtain ⟨hr, hf⟩ := hB1
        have : ∃ v, MYD P l.toArray w o v a ∧ wpMixD P M l Q ord (a.put o.dst v) w := by
          unfold wpQuiet at h
          by_cases hw : Region.wanted o (yielded l.toArray a.tmps) = true
          · rw [if_pos hw] at h
            obtain ⟨v, h1, h2⟩ := h
            refine ⟨v, .inl ⟨hw, fun w' hw' => ?_⟩, h2⟩
            have h3 := h1 w' hw'
            unfold Oper.quietAt at h3
            cases hr : (execOp a.eval o).run P w' with
            | ok n w2 =>
              rw [hr] at h3
              cases n <;> simp only [Oper.quietUpon] at h3
              case value u => obtain ⟨rfl, rfl⟩ := h3; exact .inl rfl
              case skip => obtain ⟨rfl, rfl⟩ := h3; exact .inr (.inl ⟨rfl, rfl⟩)
              case enter f args => exact (calm_enter hc hr).elim
            | halt x w2 => rw [hr] at h3; simp only [Oper.quietUpon] at h3
          · rw [if_neg hw] at h
            exact ⟨undef, .inr ⟨by simpa using hw, rfl⟩, h⟩
        obtain ⟨v, hy, hK⟩ := this
        exact wpAnyM_firstD hll (Region.noSelect_spec hs) ord.length listed a w (Region.free_spec hll hf) (by simpa using hr) hy (wpAnyM_mixD hs ord _ _ w hB2 hK)
      · by_cases hM : M.contains i = true
        · rw [if_pos (by rw [hM, Bool.or_true])] at hB1
          rw [if_neg hc, if_pos hM] at h
          simp only [Bool.and_eq_true] at hB1
          obtain ⟨hr, hf⟩ := hB1
          obtain ⟨v, f, args, hw, h1, h2, hK⟩ := h
          have hy : MYD P l.toArray w o v a := .inl ⟨hw, fun w' _ => .inr (.inr ⟨f, args, h1 w', h2 w'⟩)⟩
          exact wpAnyM_firstD hll (Region.noSelect_spec hs) ord.length listed a w (Region.free_spec hll hf) (by simpa using hr) hy (wpAnyM_mixD hs ord _ _ w hB2 hK)
        rw [if_neg (by simp only [Bool.or_eq_true]; rintro (h9 | h9); exact hc h9; exact hM h9)] at hB1
        rw [if_neg hc, if_neg hM] at h
        have hr : Region.ready md l.toArray listed = [i] := by simpa using hB1
        refine ⟨fun h0 => (by rw [hr] at h0; cases h0), fun j hj => ?_⟩
        rw [hr, List.mem_singleton] at hj
        subst hj
        unfold mOpD
        rw [hll]
        refine .inr fun w' hw' => ?_
        have h1 := h w' hw'
        unfold wpList at h1
        unfold wpOp
        rw [hll]
        simp only [] at h1 ⊢
        split
        · rename_i hw
          rw [if_pos hw] at h1
          rcases h1 with h1 | ⟨_, _, _, h1, _⟩
          · refine .inl (Oper.wp_q (Q := fun e a' w'' => e = .normal ∧ (∃ p : Regrown, w'' = grow (redrawn w p.d) p.os) ∧ wpMixD P M l Q ord a' w'') (fun e a w he hq => (he hq.1).elim) ?_)
            refine Oper.wp_mono ?_ h1
            exact fun a' w'' h2 => ⟨h2.2.1, wpAnyM_mixD hs ord _ a' w'' hB2 h2.2.2⟩
          · cases h1
        · rename_i hw
          rw [if_neg hw] at h1
          exact ⟨h1.2.1, wpAnyM_mixD hs ord _ _ w' hB2 h1.2.2⟩

/-- **One walk of an order that is laid serves every order.** -/
theorem wp_region_mixD {id : Nat} {a : Act} {w : World} (ord : List Nat) (hm : P.follows .mixedOrders = true) (hB : mixBD M l ord = true) (h : wpMixD P M l Q ord a w) : (Code.region id l.toArray true).wp P Q a w := by
  simp only [mixBD, Bool.and_eq_true, decide_eq_true_eq] at hB
  obtain ⟨⟨hs, hl⟩, hB⟩ := hB
  have hw : ∃ p : Regrown, ({ w with drawn := w.drawn + 1 } : World) = grow (redrawn w p.d) p.os := ⟨⟨w.drawn + 1, #[]⟩, by rw [grow_empty]; rfl⟩
  refine wp_region_any hm (wpAny_of_MD _ _ _ _ _ hw ?_)
  have := wpAnyM_mixD (md := .any) hs ord _ a w hB h
  rw [hl] at this
  simpa using this

theorem mix_endD {a : Act} {w : World} (h : ∀ w', (∃ p : Regrown, w' = grow (redrawn w p.d) p.os) → Q .normal a w') : wpMixD P M l Q [] a w := h
theorem mix_calmD {a : Act} {w : World} {i : Nat} {rest : List Nat} {o : Oper} {t : List Oper} (h0 : l.drop i = o :: t) (hc : calm o = true)
    (h : wpQuiet P l.toArray (fun w' => ∃ p : Regrown, w' = grow (redrawn w p.d) p.os) (fun a' => wpMixD P M l Q rest a' w) [o] a) : wpMixD P M l Q (i :: rest) a w := by
  have hl : l[i]? = some o := by have := congrArg (·[0]?) h0; simpa using this
  unfold wpMixD
  rw [hl]
  simp only [hc, if_true]
  exact h
theorem mix_mildD {a : Act} {w : World} {i : Nat} {rest : List Nat} {o : Oper} {t : List Oper} (h0 : l.drop i = o :: t) (hc : calm o = false) (hM : M.contains i = true) (v : Value) (f : FuncId) (args : Array Value) (hw : Region.wanted o (yielded l.toArray a.tmps) = true)
    (hr : ∀ w', (execOp a.eval o).run P w' = .ok (.enter f args) w') (hk : ∀ w', Calls P f args w' fun e w'' => e = .returned v ∧ w'' = w') (h : wpMixD P M l Q rest (a.put o.dst v) w) : wpMixD P M l Q (i :: rest) a w := by
  have hl : l[i]? = some o := by have := congrArg (·[0]?) h0; simpa using this
  unfold wpMixD
  rw [hl]
  simp only [hc, Bool.false_eq_true, if_false, hM, if_true]
  exact ⟨v, f, args, hw, hr, hk, h⟩
theorem mix_loudD {a : Act} {w : World} {i : Nat} {rest : List Nat} {o : Oper} {t : List Oper} (h0 : l.drop i = o :: t) (hc : calm o = false) (hM : M.contains i = false)
    (h : ∀ d os, ∀ K : Exit → Act → World → Prop, (∀ a' w'', Below w.heap.size w w'' → wpMixD P M l Q rest a' w'' → K .normal a' w'') → wpList P l.toArray K [o] a (grow (redrawn w d) os)) : wpMixD P M l Q (i :: rest) a w := by
  have hl : l[i]? = some o := by have := congrArg (·[0]?) h0; simpa using this
  unfold wpMixD
  rw [hl]
  simp only [hc, hM, Bool.false_eq_true, if_false]
  rintro w' ⟨p, rfl⟩
  exact h p.d p.os _ fun a' w'' h1 h2 => ⟨rfl, mix_of_below h1, h2⟩
end
end Go.Proofs.YtimmfcbpdnlfjaaDoor

namespace Go.Proofs.YtimmfcbpdnlfjaaDoor
open Go.RowKit Go.Sort

section
variable {P : Program} {ops : Array Oper} {md : Region.Mode}

def wpAnyMT (P : Program) (md : Region.Mode) (ops : Array Oper) (n : Nat) (L : Array Bool → Act → World → Prop) : Nat → Array Bool → Act → World → Prop
  | 0, listed, a, w => L listed a w
  | f + 1, listed, a, w => Region.ready md ops listed ≠ [] ∧ ∀ i ∈ Region.ready md ops listed, i < n ∧ mOpD P ops i (wpAnyMT P md ops n L f (listed.setIfInBounds i true)) a w

theorem wpAny_of_MT {Q : Exit → Act → World → Prop} {n g : Nat} {L : Array Bool → Act → World → Prop} (hL : ∀ listed a w w', (∃ p : Regrown, w' = grow (redrawn w p.d) p.os) → L listed a w → wpAny P md ops Q g listed a w') :
    ∀ (f : Nat) (listed : Array Bool) (a : Act) (w w' : World), (∃ p : Regrown, w' = grow (redrawn w p.d) p.os) → wpAnyMT P md ops n L f listed a w → wpAny P md ops Q (f + g) listed a w'
  | 0, _, _, _, w', hw, h => by rw [Nat.zero_add]; exact hL _ _ _ _ hw h
  | f + 1, listed, a, w, w', hw, h => by
    rw [show f + 1 + g = (f + g) + 1 by omega]
    refine ⟨fun h0 => absurd h0 h.1, fun i hi => ?_⟩
    have h1 := (h.2 i hi).2
    unfold mOpD at h1
    split at h1
    · exact h1.elim
    · rename_i o ho
      rcases h1 with ⟨v, h2, h3⟩ | h2
      · exact h2.wpOp ho hw (wpAny_of_MT hL f _ _ w w' hw h3)
      · exact wpOp_mono (fun a' w'' ⟨_, h3⟩ => wpAny_of_MT hL f _ a' w'' w'' (mix_refl w'') h3) (wpOp_q (fun _ _ _ _ h => h.elim) (h2 w' hw))

theorem wpAnyMT_first {n i : Nat} {oi : Oper} {v : Value} {L : Array Bool → Act → World → Prop} (hi : ops[i]? = some oi) (hsel : ∀ (j : Nat) (o : Oper) cs b, ops[j]? = some o → o.op ≠ .select cs b)
    (hs : Region.sinkB md ops n = true) (hc : Region.chainB md ops n = true) (hn : n < ops.size) (hin : i < n)
    (hdone : ∀ listed a w, L listed a w → ∀ j ∈ Region.ready md ops listed, n ≤ j) :
    ∀ (f : Nat) (listed : Array Bool) (a : Act) (w : World), HeadInv md ops n listed →
      (∀ j oj, ops[j]? = some oj → j ≠ i → listed.getD j true = false → (∀ e ∈ oj.after, Region.binds md e = true → e.on ≠ i) → oi.apart ops oj = true) →
      i ∈ Region.ready md ops listed → MYD P ops w oi v a →
      wpAnyMT P md ops n L f (listed.setIfInBounds i true) (a.put oi.dst v) w → wpAnyMT P md ops n L (f + 1) listed a w := by
  have here : ∀ {K : Act → World → Prop} {a : Act} {w : World}, MYD P ops w oi v a → K (a.put oi.dst v) w → mOpD P ops i K a w := fun hy H => by
    unfold mOpD; simp only [hi]; exact .inl ⟨v, hy, H⟩
  intro f
  induction f with
  | zero =>
    intro listed a w inv _ hr hy H
    have hun := (mem_ready.1 hr).1
    refine ⟨fun h => (by rw [h] at hr; cases hr), fun j hj => ?_⟩
    have hjn : j < n := by
      rcases Nat.lt_or_ge j n with h | h
      · exact h
      · exact absurd hj (tail_waits hs hc hn inv _ i rfl hin hun j h)
    refine ⟨hjn, ?_⟩
    by_cases hji : j = i
    · subst hji; exact here hy H
    · have := hdone _ _ _ H j (ready_mono hj hji)
      omega
  | succ f ih =>
    intro listed a w inv hfree hr hy H
    have hun := (mem_ready.1 hr).1
    refine ⟨fun h => (by rw [h] at hr; cases hr), fun j hj => ?_⟩
    have hjn : j < n := by
      rcases Nat.lt_or_ge j n with h | h
      · exact h
      · exact absurd hj (tail_waits hs hc hn inv _ i rfl hin hun j h)
    refine ⟨hjn, ?_⟩
    by_cases hji : j = i
    · subst hji; exact here hy H
    · have h1 := (H.2 j (ready_mono hj hji)).2
      obtain ⟨hjun, oj, hoj, hall⟩ := mem_ready.1 hj
      have hnot : ∀ e ∈ oj.after, Region.binds md e = true → e.on ≠ i := fun e he hb heq => by
        have h1 := hall e he hb
        rw [heq, getD_both hun] at h1
        cases h1
      have h2 := mOp_putD hoj (hfree j oj hoj hji hjun hnot) (fun cs b => hsel i oi cs b hi) (fun cs b => hsel j oj cs b hoj) hy h1
      have hfree' : ∀ k ok, ops[k]? = some ok → k ≠ i → (listed.setIfInBounds j true).getD k true = false →
          (∀ e ∈ ok.after, Region.binds md e = true → e.on ≠ i) → oi.apart ops ok = true := fun k ok hk hki hun hno => by
        refine hfree k ok hk hki ?_ hno
        by_cases hjk : j = k
        · subst hjk; exact hjun
        · rw [getD_set_ne true hjk] at hun; exact hun
      refine mOp_monoD (fun a' w' h3 => ih (listed.setIfInBounds j true) a' w' (inv.set hj hjn) hfree' (ready_mono hr (Ne.symm hji)) h3.1 ?_) h2
      rw [Array.setIfInBounds_comm _ _ hji]
      exact h3.2
end

def mixFromT (M : List Nat) (md : Region.Mode) (ops : Array Oper) (n : Nat) : List Nat → Array Bool → Bool
  | [], listed => Region.seqB md ops (ops.size - n) n listed
  | i :: rest, listed => (match ops[i]? with
    | none => false
    | some o => if calm o || M.contains i then (Region.ready md ops listed).contains i && Region.free md ops listed i else decide (Region.ready md ops listed = [i])) && mixFromT M md ops n rest (listed.setIfInBounds i true)
def mixBT (M : List Nat) (l : List Oper) (n : Nat) (ord : List Nat) : Bool :=
  Region.noSelect l.toArray && decide (n < l.toArray.size) && decide (ord.length = n) && ord.all (fun i => decide (i < n)) && Region.sinkB .any l.toArray n && Region.chainB .any l.toArray n && mixFromT M .any l.toArray n ord (Array.replicate l.toArray.size false)

section
variable {P : Program} {M : List Nat} {l : List Oper} {Q : Exit → Act → World → Prop} {md : Region.Mode}

/-- What the tail needs: it is alone, and its walk stands in every world that the head may leave. -/
def TailMT (P : Program) (md : Region.Mode) (l : List Oper) (n : Nat) (Q : Exit → Act → World → Prop) (listed : Array Bool) (a : Act) (w : World) : Prop :=
  Region.seqB md l.toArray (l.toArray.size - n) n listed = true ∧ ∀ w', (∃ p : Regrown, w' = grow (redrawn w p.d) p.os) → wpList P l.toArray Q (l.drop n) a w'

theorem wpAnyMT_mix {n : Nat} {L : Exit → Act → World → Prop} (hsel : Region.noSelect l.toArray = true) (hs : Region.sinkB md l.toArray n = true) (hc : Region.chainB md l.toArray n = true) (hn : n < l.toArray.size)
    (hL : ∀ a w, L .normal a w → wpList P l.toArray Q (l.drop n) a w) : ∀ (ord : List Nat) (listed : Array Bool) (a : Act) (w : World), (∀ i ∈ ord, i < n) → HeadInv md l.toArray n listed → mixFromT M md l.toArray n ord listed = true → wpMixD P M l L ord a w → wpAnyMT P md l.toArray n (TailMT P md l n Q) ord.length listed a w
  | [], listed, a, w, _, _, hB, h => ⟨hB, fun w' hw' => hL _ _ (h w' hw')⟩
  | i :: ord, listed, a, w, hlt, inv, hB, h => by
    simp only [mixFromT, Bool.and_eq_true] at hB
    obtain ⟨hB1, hB2⟩ := hB
    have hin : i < n := hlt i (by simp)
    have hlt' : ∀ j ∈ ord, j < n := fun j hj => hlt j (by simp [hj])
    have hdone : ∀ listed a w, TailMT P md l n Q listed a w → ∀ j ∈ Region.ready md l.toArray listed, n ≤ j := fun _ _ _ hL => seqB_ready hL.1
    have hll : l.toArray[i]? = l[i]? := by simp
    rw [hll] at hB1
    unfold wpMixD at h
    cases ho : l[i]? with
    | none => rw [ho] at hB1; simp at hB1
    | some o =>
      rw [ho] at hB1 h
      rw [ho] at hll
      simp only [] at hB1 h
      by_cases hc' : calm o = true
      · rw [if_pos (by rw [hc']; rfl)] at hB1
        rw [if_pos hc'] at h
        simp only [Bool.and_eq_true] at hB1
        obtain ⟨hr, hf⟩ := hB1
        have hr' : i ∈ Region.ready md l.toArray listed := by simpa using hr
        have : ∃ v, MYD P l.toArray w o v a ∧ wpMixD P M l L ord (a.put o.dst v) w := by
          unfold wpQuiet at h
          by_cases hw : Region.wanted o (yielded l.toArray a.tmps) = true
          · rw [if_pos hw] at h
            obtain ⟨v, h1, h2⟩ := h
            refine ⟨v, .inl ⟨hw, fun w' hw' => ?_⟩, h2⟩
            have h3 := h1 w' hw'
            unfold Oper.quietAt at h3
            cases hr : (execOp a.eval o).run P w' with
            | ok n w2 =>
              rw [hr] at h3
              cases n <;> simp only [Oper.quietUpon] at h3
              case value u => obtain ⟨rfl, rfl⟩ := h3; exact .inl rfl
              case skip => obtain ⟨rfl, rfl⟩ := h3; exact .inr (.inl ⟨rfl, rfl⟩)
              case enter f args => exact (calm_enter hc' hr).elim
            | halt x w2 => rw [hr] at h3; simp only [Oper.quietUpon] at h3
          · rw [if_neg hw] at h
            exact ⟨undef, .inr ⟨by simpa using hw, rfl⟩, h⟩
        obtain ⟨v, hy, hK⟩ := this
        exact wpAnyMT_first hll (Region.noSelect_spec hsel) hs hc hn hin hdone ord.length listed a w inv (Region.free_spec hll hf) hr' hy (wpAnyMT_mix hsel hs hc hn hL ord _ _ w hlt' (inv.set hr' hin) hB2 hK)
      · by_cases hM : M.contains i = true
        · rw [if_pos (by rw [hM, Bool.or_true])] at hB1
          rw [if_neg hc', if_pos hM] at h
          simp only [Bool.and_eq_true] at hB1
          obtain ⟨hr, hf⟩ := hB1
          have hr' : i ∈ Region.ready md l.toArray listed := by simpa using hr
          obtain ⟨v, f, args, hw, h1, h2, hK⟩ := h
          have hy : MYD P l.toArray w o v a := .inl ⟨hw, fun w' _ => .inr (.inr ⟨f, args, h1 w', h2 w'⟩)⟩
          exact wpAnyMT_first hll (Region.noSelect_spec hsel) hs hc hn hin hdone ord.length listed a w inv (Region.free_spec hll hf) hr' hy (wpAnyMT_mix hsel hs hc hn hL ord _ _ w hlt' (inv.set hr' hin) hB2 hK)
        rw [if_neg (by simp only [Bool.or_eq_true]; rintro (h9 | h9); exact hc' h9; exact hM h9)] at hB1
        rw [if_neg hc', if_neg hM] at h
        have hr : Region.ready md l.toArray listed = [i] := by simpa using hB1
        have hr' : i ∈ Region.ready md l.toArray listed := by rw [hr]; simp
        refine ⟨fun h0 => (by rw [hr] at h0; cases h0), fun j hj => ?_⟩
        rw [hr, List.mem_singleton] at hj
        subst hj
        refine ⟨hin, ?_⟩
        unfold mOpD
        rw [hll]
        refine .inr fun w' hw' => ?_
        have h1 := h w' hw'
        unfold wpList at h1
        unfold wpOp
        rw [hll]
        simp only [] at h1 ⊢
        split
        · rename_i hw
          rw [if_pos hw] at h1
          rcases h1 with h1 | ⟨_, _, _, h1, _⟩
          · refine .inl (Oper.wp_q (Q := fun e a' w'' => e = .normal ∧ (∃ p : Regrown, w'' = grow (redrawn w p.d) p.os) ∧ wpMixD P M l L ord a' w'') (fun e a w he hq => (he hq.1).elim) ?_)
            refine Oper.wp_mono ?_ h1
            exact fun a' w'' h2 => ⟨h2.2.1, wpAnyMT_mix hsel hs hc hn hL ord _ a' w'' hlt' (inv.set hr' hin) hB2 h2.2.2⟩
          · cases h1
        · rename_i hw
          rw [if_neg hw] at h1
          exact ⟨h1.2.1, wpAnyMT_mix hsel hs hc hn hL ord _ _ w' hlt' (inv.set hr' hin) hB2 h1.2.2⟩

/-- **One walk of the head's order that is laid, and of the tail behind it, serves every order.** -/
theorem wp_region_mixT {id : Nat} {a : Act} {w : World} (n : Nat) (ord : List Nat) (hm : P.follows .mixedOrders = true) (hB : mixBT M l n ord = true)
    (h : wpMixD P M l (fun _ a' w' => wpList P l.toArray Q (l.drop n) a' w') ord a w) : (Code.region id l.toArray true).wp P Q a w := by
  simp only [mixBT, Bool.and_eq_true, decide_eq_true_eq, List.all_eq_true] at hB
  obtain ⟨⟨⟨⟨⟨⟨hsel, hn⟩, hlen⟩, hlt⟩, hs⟩, hc⟩, hB⟩ := hB
  have hw : ∃ p : Regrown, ({ w with drawn := w.drawn + 1 } : World) = grow (redrawn w p.d) p.os := ⟨⟨w.drawn + 1, #[]⟩, by rw [grow_empty]; rfl⟩
  have hdl : (l.drop n).length = l.toArray.size - n := by simp
  have inv0 : HeadInv .any l.toArray n (Array.replicate l.toArray.size false) :=
    ⟨by simp, fun j oj _ hl => (by rw [getD_replicate_false] at hl; cases hl), fun t _ ht => getD_in (by simpa using ht) (getD_replicate_false _ _)⟩
  have H := wpAnyMT_mix (md := .any) (Q := Q) hsel hs hc hn (fun _ _ h => h) ord _ a w hlt inv0 hB h
  refine wp_region_any hm ?_
  have := wpAny_of_MT (Q := Q) (g := l.toArray.size - n) (fun listed a' w w' hw' hL => by
    have := wpAny_of_seq (md := .any) (Q' := Q) (l.drop n) n listed a' w' (fun j => by simp [List.getElem?_drop]) (by rw [hdl]; exact hL.1) (hL.2 w' hw')
    rwa [hdl] at this) _ _ _ _ _ hw H
  rw [hlen, show n + (l.toArray.size - n) = l.toArray.size by omega] at this
  exact this
end
end Go.Proofs.YtimmfcbpdnlfjaaDoor

namespace Go.Proofs.YtimmfcbpdnlfjaaDoor
open Go.RowKit Go.Sort

/-- The blocks of S that were there stand as they were; nothing was printed, read or asked of the system. -/
structure Stand (S : Nat → Prop) (w w' : World) : Prop where
  os : w'.os = w.os
  tape : w'.tape = w.tape
  output : w'.output = w.output
  size : w.heap.size ≤ w'.heap.size
  block : ∀ k, k < w.heap.size → S k → w'.heap[k]? = w.heap[k]?
structure Kept (S : Nat → Prop) (w : World) where
  v : World
  h : Stand S w v

section
variable {S : Nat → Prop} {w w' w'' : World}
theorem Stand.refl (S : Nat → Prop) (w : World) : Stand S w w := ⟨rfl, rfl, rfl, Nat.le_refl _, fun _ _ _ => rfl⟩
instance (S : Nat → Prop) (w : World) : Inhabited (Kept S w) := ⟨⟨w, Stand.refl S w⟩⟩
theorem Stand.drew (w : World) : Stand S w { w with drawn := w.drawn + 1 } := ⟨rfl, rfl, rfl, Nat.le_refl _, fun _ _ _ => rfl⟩
theorem Stand.trans (h : Stand S w w') (h' : Stand S w' w'') : Stand S w w'' :=
  ⟨h'.os.trans h.os, h'.tape.trans h.tape, h'.output.trans h.output, Nat.le_trans h.size h'.size, fun k hk hs => (h'.block k (Nat.lt_of_lt_of_le hk h.size) hs).trans (h.block k hk hs)⟩
theorem Stand.mono {S' : Nat → Prop} (h : Stand S w w') (hS : ∀ k, S' k → S k) : Stand S' w w' := ⟨h.os, h.tape, h.output, h.size, fun k hk hs => h.block k hk (hS k hs)⟩
theorem Stand.of_below (h : Below w.heap.size w w') : Stand S w w' := ⟨h.os, h.tape, h.output, h.size, fun k hk _ => h.block k hk⟩
theorem Stand.of_grown {row : Option Nat} (h : w.grownBy w' row) (hS : ∀ k, row = some k → ¬ S k) : Stand S w w' :=
  ⟨h.os, h.tape, h.output, h.size, fun k hk hs => h.block k hk (fun e => hS k e.symm hs)⟩
theorem Stand.alloc (h : Stand S w w') (o : Obj) : Stand S w (w'.alloc o) := h.trans (Stand.of_below (Below.alloc (Below.refl _ _) (Nat.le_refl _) o))
theorem Stand.below {B : Nat} (h : Stand S w w') (hS : ∀ k, k < B → S k) (hB : B ≤ w.heap.size) : Below B w w' := ⟨h.os, h.tape, h.output, h.size, fun k hk => h.block k (Nat.lt_of_lt_of_le hk hB) (hS k hk)⟩
theorem Stand.grown {row : Option Nat} (h : Stand (fun k => some k ≠ row) w w') : w.grownBy w' row := ⟨h.os, h.tape, h.output, h.size, fun k hk hne => h.block k hk hne⟩
theorem Stand.cell (h : Stand S w w') {p : Addr} {v : Value} (hS : S p.block) (q : w.cell? p = some v) : w'.cell? p = some v :=
  (World.cell?_of_block (h.block p.block (block_lt_of_cell q) hS)).trans q
theorem Stand.blk {g : Nat} {t : TypeId} {cs : Array Value} (h : Stand S w w') (hS : S g) (q : Blk w g t cs) : Blk w' g t cs := (h.block g q.lt hS).trans q
theorem Stand.reads {B size n : Nat} {A : Option Addr} {xs : List Value} (h : Stand S w w') (hS : ∀ k, k < B → S k) (hB : B ≤ w.heap.size) (q : Reads w B size A n xs) : Reads w' B size A n xs :=
  q.keep fun p hp => World.cell?_of_block (h.block p.block (Nat.lt_of_lt_of_le hp hB) (hS _ hp))
theorem kp_trans (h : ∃ p : Kept S w, w' = p.v) (h' : ∃ p : Kept S w', w'' = p.v) : ∃ p : Kept S w, w'' = p.v := by
  obtain ⟨p, rfl⟩ := h
  obtain ⟨q, rfl⟩ := h'
  exact ⟨⟨_, p.h.trans q.h⟩, rfl⟩
theorem kp_refl (w : World) : ∃ p : Kept S w, w = p.v := ⟨⟨_, Stand.refl S w⟩, rfl⟩
theorem kp_of (h : Stand S w w') : ∃ p : Kept S w, w' = p.v := ⟨⟨_, h⟩, rfl⟩
end

def calmK (o : Oper) : Bool := match o.op with
  | .move _ | .assign _ | .pick _ _ _ | .load _ _ | .binOp _ _ _ _ _ | .unOp _ _ _ | .convert _ _ _ | .extract _ _ | .indexAddr _ _ _ | .index _ _ _ | .fieldAddr _ _ _ | .field _ _ _ | .makeInterface _ _ | .slice _ _ _ _ _ | .build _ _ => true
  | .call c => match c.callee with
    | .builtin b => match b with | .len | .cap | .min | .max => true | _ => false
    | _ => false
  | _ => false

theorem calm_enterK {P : Program} {w w' : World} {f : FuncId} {args : Array Value} {o : Oper} {ρ : Operand → Value} (hc : calmK o = true) (h : (execOp ρ o).run P w = .ok (.enter f args) w') : False := by
  unfold calmK at hc
  unfold execOp at h
  split at hc
  case h_16 c hop =>
    simp only [hop] at h
    split at hc
    · rename_i b hcal
      unfold resolve at h
      simp only [hcal] at h
      rw [Sem.run_bind, Sem.run_pure, Result.andThen_ok] at h
      unfold invoke at h
      simp only [] at h
      unfold builtin at h
      split at hc
      all_goals first | exact run_val _ h | cases hc
    · cases hc
  case h_17 => cases hc
  all_goals (rename_i hop; simp only [hop] at h; first | exact run_val _ h | (simp [Sem.run_pure] at h; done) | (rw [Sem.run_bind] at h; revert h; generalize (Sem.run P (asBool _) w) = r; intro h; cases r <;> simp [Sem.run_pure] at h))

section
variable {S : Nat → Prop} {P : Program} {ops : Array Oper} {md : Region.Mode}
theorem wpOp_putJk {j : Nat} {oi oj : Oper} {v : Value} {J : Act → Prop} (hj : ops[j]? = some oj) (hap : oi.apart ops oj = true) (hsj : ∀ cs b, oj.op ≠ .select cs b)
    (hJ : ∀ a u, J a → J (a.put oj.dst u)) (hJd : ∀ (a : Act) d, J a → J { a with defers := d :: a.defers }) {K : Act → World → Prop} {a : Act} {w : World}
    (hy : J a) (h : wpOp P ops noQ j K (a.put oi.dst v) w) : wpOp P ops noQ j (fun a' w' => J a' ∧ K (a'.put oi.dst v) w') a w := by
  obtain ⟨h1, h2, -⟩ := Oper.apart_spec hap
  unfold wpOp at *
  simp only [hj] at *
  rw [wanted_put oj a oi.dst v h1] at h
  split
  · rename_i hw
    simp only [hw, if_true] at h
    rcases h with h | ⟨_, _, _, h⟩
    case inr => exact h.elim
    refine .inl ?_
    unfold Oper.wp at *
    rw [execOp_put oj hsj a oi.dst v h1] at h
    generalize (execOp a.eval oj).run P w = r at *
    cases r with
    | ok n w' =>
      cases n <;> simp only [Oper.upon] at h ⊢
      case value u => exact ⟨hJ _ _ hy, by rw [← Act.put_comm a v u h2]; exact h⟩
      case skip => exact ⟨hJ _ _ hy, by rw [← Act.put_comm a v undef h2]; exact h⟩
      case defer d =>
        refine ⟨hJ _ _ (hJd _ _ hy), ?_⟩
        rw [← Act.put_comm _ v undef h2, ← Act.put_defers]
        exact h
      case enter f args =>
        refine Calls.mono h fun e w'' he => ?_
        cases e with
        | returned u => exact ⟨hJ _ _ hy, by rw [← Act.put_comm a v u h2]; exact he⟩
        | panicked c => exact he
        | outgrown => exact he
      case row row args => exact Rows.mono h fun u w'' he => ⟨hJ _ _ hy, by rw [← Act.put_comm a v u h2]; exact he⟩
    | halt x w' =>
      cases x <;> simp only [Oper.upon] at h ⊢
      case panic u => exact h
  · rename_i hw
    simp only [hw] at h
    exact ⟨hJ _ _ hy, by rw [← Act.put_comm a v undef h2]; exact h⟩

end

section
variable {S : Nat → Prop} {P : Program} {ops : Array Oper} {md : Region.Mode}

/-- In state 'a', in every world that some calls may leave, operation 'o' yields 'v', and does nothing else. -/
def MYDk (S : Nat → Prop) (P : Program) (ops : Array Oper) (w : World) (o : Oper) (v : Value) (a : Act) : Prop :=
  (Region.wanted o (yielded ops a.tmps) = true ∧ ∀ w', (∃ p : Kept S w, w' = p.v) → (execOp a.eval o).run P w' = .ok (.value v) w' ∨ ((execOp a.eval o).run P w' = .ok .skip w' ∧ v = undef) ∨ (∃ f args, (execOp a.eval o).run P w' = .ok (.enter f args) w' ∧ Calls P f args w' fun e w'' => e = .returned v ∧ w'' = w')) ∨
  (Region.wanted o (yielded ops a.tmps) = false ∧ v = undef)
theorem MYDk.of_same {w : World} {o : Oper} {v : Value} {a a' : Act} (hy : MYDk S P ops w o v a) (he : execOp a'.eval o = execOp a.eval o)
    (hw : Region.wanted o (yielded ops a'.tmps) = Region.wanted o (yielded ops a.tmps)) : MYDk S P ops w o v a' := by
  unfold MYDk at *
  rw [he, hw]
  exact hy
theorem MYDk.later {w w1 : World} {o : Oper} {v : Value} {a : Act} (hy : MYDk S P ops w o v a) (h : ∃ p : Kept S w, w1 = p.v) : MYDk S P ops w1 o v a := by
  rcases hy with ⟨h1, h2⟩ | h1
  · exact .inl ⟨h1, fun w' hw' => h2 w' (kp_trans h hw')⟩
  · exact .inr h1
theorem MYDk.wpOp {w w' : World} {i : Nat} {o : Oper} {v : Value} {a : Act} {Q : Exit → Act → World → Prop} (hi : ops[i]? = some o) (hy : MYDk S P ops w o v a) (hw : ∃ p : Kept S w, w' = p.v)
    {K : Act → World → Prop} (h : K (a.put o.dst v) w') : wpOp P ops Q i K a w' := by
  unfold Go.wpOp
  simp only [hi]
  rcases hy with ⟨h1, h2⟩ | ⟨h1, rfl⟩
  · rcases h2 w' hw with h3 | ⟨h3, rfl⟩ | ⟨f, args, h3, h4⟩
    · simp only [h1, if_true, Oper.wp, h3, Oper.upon]; exact .inl h
    · simp only [h1, if_true, Oper.wp, h3, Oper.upon]; exact .inl h
    · simp only [h1, if_true, Oper.wp, h3, Oper.upon]
      exact .inl (Calls.mono h4 fun e w'' he => by obtain ⟨rfl, rfl⟩ := he; exact h)
  · simp only [h1, Bool.false_eq_true, if_false]; exact h

def mOpDk (S : Nat → Prop) (P : Program) (ops : Array Oper) (i : Nat) (K : Act → World → Prop) (a : Act) (w : World) : Prop :=
  match ops[i]? with
  | none => False
  | some o => (∃ v, MYDk S P ops w o v a ∧ K (a.put o.dst v) w) ∨ wpOp P ops noQ i (fun a' w'' => (∃ p : Kept S w, w'' = p.v) ∧ K a' w'') a w

theorem mOp_monoDk {i : Nat} {K K' : Act → World → Prop} {a : Act} {w : World} (h : ∀ a w, K a w → K' a w) (hh : mOpDk S P ops i K a w) : mOpDk S P ops i K' a w := by
  unfold mOpDk at *
  split
  · rename_i ho; simp only [ho] at hh
  · rename_i o ho
    simp only [ho] at hh
    rcases hh with ⟨v, h1, h2⟩ | h1
    · exact .inl ⟨v, h1, h _ _ h2⟩
    · exact .inr (wpOp_mono (fun a w ⟨h2, h3⟩ => ⟨h2, h _ _ h3⟩) h1)

def wpAnyMDk (S : Nat → Prop) (P : Program) (md : Region.Mode) (ops : Array Oper) (Q : Exit → Act → World → Prop) : Nat → Array Bool → Act → World → Prop
  | 0, listed, a, w => Region.ready md ops listed = [] ∧ Q .normal a w
  | fuel + 1, listed, a, w => (Region.ready md ops listed = [] → Q .normal a w) ∧
    ∀ i ∈ Region.ready md ops listed, mOpDk S P ops i (wpAnyMDk S P md ops Q fuel (listed.setIfInBounds i true)) a w

theorem wpAny_of_MDk {Q : Exit → Act → World → Prop} : ∀ (fuel : Nat) (listed : Array Bool) (a : Act) (w : World), wpAnyMDk S P md ops Q fuel listed a w → wpAny P md ops Q fuel listed a w
  | 0, _, _, _, h => ⟨h.1, h.2⟩
  | fuel + 1, listed, a, w, h => by
    refine ⟨fun h0 => h.1 h0, fun i hi => ?_⟩
    have h1 := h.2 i hi
    unfold mOpDk at h1
    split at h1
    · exact h1.elim
    · rename_i o ho
      rcases h1 with ⟨v, h2, h3⟩ | h2
      · exact h2.wpOp ho (kp_refl w) (wpAny_of_MDk fuel _ _ w h3)
      · exact wpOp_mono (fun a' w'' ⟨_, h3⟩ => wpAny_of_MDk fuel _ a' w'' h3) (wpOp_q (fun _ _ _ _ h => h.elim) h2)

theorem mOp_putDk {j : Nat} {oi oj : Oper} {v : Value} {w : World} (hj : ops[j]? = some oj) (hap : oi.apart ops oj = true)
    (hsi : ∀ cs b, oi.op ≠ .select cs b) (hsj : ∀ cs b, oj.op ≠ .select cs b) {K : Act → World → Prop} {a : Act}
    (hy : MYDk S P ops w oi v a) (h : mOpDk S P ops j K (a.put oi.dst v) w) : mOpDk S P ops j (fun a' w' => MYDk S P ops w' oi v a' ∧ K (a'.put oi.dst v) w') a w := by
  obtain ⟨h1, h2, h3⟩ := Oper.apart_spec hap
  have keep : ∀ (a : Act) u, MYDk S P ops w oi v a → MYDk S P ops w oi v (a.put oj.dst u) := fun a u hy =>
    hy.of_same (execOp_put oi hsi a oj.dst u h3) (wanted_put oi a oj.dst u h3)
  unfold mOpDk at *
  simp only [hj] at h ⊢
  rcases h with ⟨u, hu, hn⟩ | h
  · refine .inl ⟨u, hu.of_same (execOp_put oj hsj a oi.dst v h1).symm (wanted_put oj a oi.dst v h1).symm, keep a u hy, ?_⟩
    rw [← Act.put_comm a v u h2]; exact hn
  · refine .inr ?_
    refine wpOp_mono ?_ (wpOp_putJk (J := MYDk S P ops w oi v) hj hap hsj keep (fun a d hy => hy.of_same rfl rfl) hy h)
    exact fun a' w'' ⟨h4, h5, h6⟩ => ⟨h5, h4.later h5, h6⟩

theorem wpAnyM_firstDk {Q : Exit → Act → World → Prop} {i : Nat} {oi : Oper} {v : Value} (hi : ops[i]? = some oi) (hsel : ∀ (j : Nat) (o : Oper) cs b, ops[j]? = some o → o.op ≠ .select cs b) :
    ∀ (fuel : Nat) (listed : Array Bool) (a : Act) (w : World),
      (∀ j oj, ops[j]? = some oj → j ≠ i → listed.getD j true = false → (∀ e ∈ oj.after, Region.binds md e = true → e.on ≠ i) → oi.apart ops oj = true) →
      i ∈ Region.ready md ops listed → MYDk S P ops w oi v a →
      wpAnyMDk S P md ops Q fuel (listed.setIfInBounds i true) (a.put oi.dst v) w → wpAnyMDk S P md ops Q (fuel + 1) listed a w := by
  have here : ∀ {K : Act → World → Prop} {a : Act} {w : World}, MYDk S P ops w oi v a → K (a.put oi.dst v) w → mOpDk S P ops i K a w := fun hy H => by
    unfold mOpDk; simp only [hi]; exact .inl ⟨v, hy, H⟩
  intro fuel
  induction fuel with
  | zero =>
    intro listed a w _ hr hy H
    refine ⟨fun h => (by rw [h] at hr; cases hr), fun j hj => ?_⟩
    by_cases hji : j = i
    · subst hji; exact here hy H
    · have := ready_mono hj hji
      rw [H.1] at this
      cases this
  | succ fuel ih =>
    intro listed a w hfree hr hy H
    refine ⟨fun h => (by rw [h] at hr; cases hr), fun j hj => ?_⟩
    by_cases hji : j = i
    · subst hji; exact here hy H
    · have h1 := H.2 j (ready_mono hj hji)
      obtain ⟨hjun, oj, hoj, hall⟩ := mem_ready.1 hj
      have hnot : ∀ e ∈ oj.after, Region.binds md e = true → e.on ≠ i := fun e he hb heq => by
        have h1 := hall e he hb
        have h0 := (mem_ready.1 hr).1
        rw [heq] at h1
        rcases Nat.lt_or_ge i listed.size with h' | h'
        · simp [h'] at h0 h1; rw [h0] at h1; cases h1
        · simp [Array.getElem?_eq_none h'] at h1
      have h2 := mOp_putDk hoj (hfree j oj hoj hji hjun hnot) (fun cs b => hsel i oi cs b hi) (fun cs b => hsel j oj cs b hoj) hy h1
      have hfree' : ∀ k ok, ops[k]? = some ok → k ≠ i → (listed.setIfInBounds j true).getD k true = false →
          (∀ e ∈ ok.after, Region.binds md e = true → e.on ≠ i) → oi.apart ops ok = true := fun k ok hk hki hun hno => by
        refine hfree k ok hk hki ?_ hno
        by_cases hjk : j = k
        · subst hjk; exact hjun
        · rw [getD_set_ne true hjk] at hun; exact hun
      refine mOp_monoDk (fun a' w' h3 => ih (listed.setIfInBounds j true) a' w' hfree' (ready_mono hr (Ne.symm hji)) h3.1 ?_) h2
      rw [Array.setIfInBounds_comm _ _ hji]
      exact h3.2
end

/-- The walk in the order that is laid. -/
def wpMixDk (S : Nat → Prop) (P : Program) (M : List Nat) (l : List Oper) (Q : Exit → Act → World → Prop) : List Nat → Act → World → Prop
  | [], a, w => Q .normal a w
  | i :: rest, a, w => match l[i]? with
    | none => False
    | some o => if calmK o then wpQuiet P l.toArray (fun w' => ∃ p : Kept S w, w' = p.v) (fun a' => wpMixDk S P M l Q rest a' w) [o] a
      else if M.contains i then ∃ v f args, Region.wanted o (yielded l.toArray a.tmps) = true ∧ (∀ p : Kept S w, (execOp a.eval o).run P p.v = .ok (.enter f args) p.v) ∧ (∀ p : Kept S w, Calls P f args p.v fun e w'' => e = .returned v ∧ w'' = p.v) ∧ wpMixDk S P M l Q rest (a.put o.dst v) w
      else wpList P l.toArray (fun e a' w'' => e = .normal ∧ (∃ p : Kept S w, w'' = p.v) ∧ wpMixDk S P M l Q rest a' w'') [o] a w

def mixFromDk (M : List Nat) (md : Region.Mode) (ops : Array Oper) : List Nat → Array Bool → Bool
  | [], listed => (Region.ready md ops listed).isEmpty
  | i :: rest, listed => (match ops[i]? with
    | none => false
    | some o => if calmK o || M.contains i then (Region.ready md ops listed).contains i && Region.free md ops listed i else Region.ready md ops listed == [i]) && mixFromDk M md ops rest (listed.setIfInBounds i true)
def mixBDk (M : List Nat) (l : List Oper) (ord : List Nat) : Bool := Region.noSelect l.toArray && decide (ord.length = l.length) && mixFromDk M .any l.toArray ord (Array.replicate l.length false)

section
variable {S : Nat → Prop} {P : Program} {M : List Nat} {l : List Oper} {Q : Exit → Act → World → Prop} {md : Region.Mode}

theorem wpAnyM_mixDk (hs : Region.noSelect l.toArray = true) : ∀ (ord : List Nat) (listed : Array Bool) (a : Act) (w : World), mixFromDk M md l.toArray ord listed = true → wpMixDk S P M l Q ord a w → wpAnyMDk S P md l.toArray Q ord.length listed a w
  | [], listed, a, w, hB, h => ⟨by simpa [mixFromDk] using hB, h⟩
  | i :: ord, listed, a, w, hB, h => by
    simp only [mixFromDk, Bool.and_eq_true] at hB
    obtain ⟨hB1, hB2⟩ := hB
    have hll : l.toArray[i]? = l[i]? := by simp
    rw [hll] at hB1
    unfold wpMixDk at h
    cases ho : l[i]? with
    | none => rw [ho] at hB1; simp at hB1
    | some o =>
      rw [ho] at hB1 h
      rw [ho] at hll
      simp only [] at hB1 h
      by_cases hc : calmK o = true
      · rw [if_pos (by rw [hc]; rfl)] at hB1
        rw [if_pos hc] at h
        simp only [Bool.and_eq_true] at hB1
        obtain ⟨hr, hf⟩ := hB1
        have : ∃ v, MYDk S P l.toArray w o v a ∧ wpMixDk S P M l Q ord (a.put o.dst v) w := by
          unfold wpQuiet at h
          by_cases hw : Region.wanted o (yielded l.toArray a.tmps) = true
          · rw [if_pos hw] at h
            obtain ⟨v, h1, h2⟩ := h
            refine ⟨v, .inl ⟨hw, fun w' hw' => ?_⟩, h2⟩
            have h3 := h1 w' hw'
            unfold Oper.quietAt at h3
            cases hr : (execOp a.eval o).run P w' with
            | ok n w2 =>
              rw [hr] at h3
              cases n <;> simp only [Oper.quietUpon] at h3
              case value u => obtain ⟨rfl, rfl⟩ := h3; exact .inl rfl
              case skip => obtain ⟨rfl, rfl⟩ := h3; exact .inr (.inl ⟨rfl, rfl⟩)
              case enter f args => exact (calm_enterK hc hr).elim
            | halt x w2 => rw [hr] at h3; simp only [Oper.quietUpon] at h3
          · rw [if_neg hw] at h
            exact ⟨undef, .inr ⟨by simpa using hw, rfl⟩, h⟩
        obtain ⟨v, hy, hK⟩ := this
        exact wpAnyM_firstDk hll (Region.noSelect_spec hs) ord.length listed a w (Region.free_spec hll hf) (by simpa using hr) hy (wpAnyM_mixDk hs ord _ _ w hB2 hK)
      · by_cases hM : M.contains i = true
        · rw [if_pos (by rw [hM, Bool.or_true])] at hB1
          rw [if_neg hc, if_pos hM] at h
          simp only [Bool.and_eq_true] at hB1
          obtain ⟨hr, hf⟩ := hB1
          obtain ⟨v, f, args, hw, h1, h2, hK⟩ := h
          have hy : MYDk S P l.toArray w o v a := .inl ⟨hw, fun w' hw' => by obtain ⟨p, rfl⟩ := hw'; exact .inr (.inr ⟨f, args, h1 p, h2 p⟩)⟩
          exact wpAnyM_firstDk hll (Region.noSelect_spec hs) ord.length listed a w (Region.free_spec hll hf) (by simpa using hr) hy (wpAnyM_mixDk hs ord _ _ w hB2 hK)
        rw [if_neg (by simp only [Bool.or_eq_true]; rintro (h9 | h9); exact hc h9; exact hM h9)] at hB1
        rw [if_neg hc, if_neg hM] at h
        have hr : Region.ready md l.toArray listed = [i] := by simpa using hB1
        refine ⟨fun h0 => (by rw [hr] at h0; cases h0), fun j hj => ?_⟩
        rw [hr, List.mem_singleton] at hj
        subst hj
        unfold mOpDk
        rw [hll]
        refine .inr ?_
        have h1 := h
        unfold wpList at h1
        unfold wpOp
        rw [hll]
        simp only [] at h1 ⊢
        split
        · rename_i hw
          rw [if_pos hw] at h1
          rcases h1 with h1 | ⟨_, _, _, h1, _⟩
          · refine .inl (Oper.wp_q (Q := fun e a' w'' => e = .normal ∧ (∃ p : Kept S w, w'' = p.v) ∧ wpMixDk S P M l Q ord a' w'') (fun e a w he hq => (he hq.1).elim) ?_)
            refine Oper.wp_mono ?_ h1
            exact fun a' w'' h2 => ⟨h2.2.1, wpAnyM_mixDk hs ord _ a' w'' hB2 h2.2.2⟩
          · cases h1
        · rename_i hw
          rw [if_neg hw] at h1
          exact ⟨h1.2.1, wpAnyM_mixDk hs ord _ _ w hB2 h1.2.2⟩

/-- **One walk of an order that is laid serves every order.** -/
theorem wp_region_mixDk {id : Nat} {a : Act} {w : World} (S : Nat → Prop) (ord : List Nat) (hm : P.follows .mixedOrders = true) (hB : mixBDk M l ord = true) (h : wpMixDk S P M l Q ord a w.drew) : (Code.region id l.toArray true).wp P Q a w := by
  simp only [mixBDk, Bool.and_eq_true, decide_eq_true_eq] at hB
  obtain ⟨⟨hs, hl⟩, hB⟩ := hB
  refine wp_region_any hm (wpAny_of_MDk (S := S) _ _ _ _ ?_)
  have := wpAnyM_mixDk (md := .any) hs ord _ a w.drew hB h
  rw [hl] at this
  simpa using this

theorem mix_endDk {a : Act} {w : World} (h : Q .normal a w) : wpMixDk S P M l Q [] a w := h
theorem mix_calmDk {a : Act} {w : World} {i : Nat} {rest : List Nat} {o : Oper} {t : List Oper} (h0 : l.drop i = o :: t) (hc : calmK o = true)
    (h : wpQuiet P l.toArray (fun w' => ∃ p : Kept S w, w' = p.v) (fun a' => wpMixDk S P M l Q rest a' w) [o] a) : wpMixDk S P M l Q (i :: rest) a w := by
  have hl : l[i]? = some o := by have := congrArg (·[0]?) h0; simpa using this
  unfold wpMixDk
  rw [hl]
  simp only [hc, if_true]
  exact h
theorem mix_mildDk {a : Act} {w : World} {i : Nat} {rest : List Nat} {o : Oper} {t : List Oper} (h0 : l.drop i = o :: t) (hc : calmK o = false) (hM : M.contains i = true) (v : Value) (f : FuncId) (args : Array Value) (hw : Region.wanted o (yielded l.toArray a.tmps) = true)
    (hr : ∀ p : Kept S w, (execOp a.eval o).run P p.v = .ok (.enter f args) p.v) (hk : ∀ p : Kept S w, Calls P f args p.v fun e w'' => e = .returned v ∧ w'' = p.v) (h : wpMixDk S P M l Q rest (a.put o.dst v) w) : wpMixDk S P M l Q (i :: rest) a w := by
  have hl : l[i]? = some o := by have := congrArg (·[0]?) h0; simpa using this
  unfold wpMixDk
  rw [hl]
  simp only [hc, Bool.false_eq_true, if_false, hM, if_true]
  exact ⟨v, f, args, hw, hr, hk, h⟩
theorem mix_loudDk {a : Act} {w : World} {i : Nat} {rest : List Nat} {o : Oper} {t : List Oper} (h0 : l.drop i = o :: t) (hc : calmK o = false) (hM : M.contains i = false)
    (h : ∀ K : Exit → Act → World → Prop, (∀ a' w'', Stand S w w'' → wpMixDk S P M l Q rest a' w'' → K .normal a' w'') → wpList P l.toArray K [o] a w) : wpMixDk S P M l Q (i :: rest) a w := by
  have hl : l[i]? = some o := by have := congrArg (·[0]?) h0; simpa using this
  unfold wpMixDk
  rw [hl]
  simp only [hc, hM, Bool.false_eq_true, if_false]
  exact h _ fun a' w'' h1 h2 => ⟨rfl, kp_of h1, h2⟩
end

section
variable {S : Nat → Prop} {P : Program} {ops : Array Oper} {md : Region.Mode}

def wpAnyMTk (S : Nat → Prop) (P : Program) (md : Region.Mode) (ops : Array Oper) (n : Nat) (L : Array Bool → Act → World → Prop) : Nat → Array Bool → Act → World → Prop
  | 0, listed, a, w => L listed a w
  | f + 1, listed, a, w => Region.ready md ops listed ≠ [] ∧ ∀ i ∈ Region.ready md ops listed, i < n ∧ mOpDk S P ops i (wpAnyMTk S P md ops n L f (listed.setIfInBounds i true)) a w

theorem wpAny_of_MTk {Q : Exit → Act → World → Prop} {n g : Nat} {L : Array Bool → Act → World → Prop} (hL : ∀ listed a w, L listed a w → wpAny P md ops Q g listed a w) :
    ∀ (f : Nat) (listed : Array Bool) (a : Act) (w : World), wpAnyMTk S P md ops n L f listed a w → wpAny P md ops Q (f + g) listed a w
  | 0, _, _, _, h => by rw [Nat.zero_add]; exact hL _ _ _ h
  | f + 1, listed, a, w, h => by
    rw [show f + 1 + g = (f + g) + 1 by omega]
    refine ⟨fun h0 => absurd h0 h.1, fun i hi => ?_⟩
    have h1 := (h.2 i hi).2
    unfold mOpDk at h1
    split at h1
    · exact h1.elim
    · rename_i o ho
      rcases h1 with ⟨v, h2, h3⟩ | h2
      · exact h2.wpOp ho (kp_refl w) (wpAny_of_MTk hL f _ _ w h3)
      · exact wpOp_mono (fun a' w'' ⟨_, h3⟩ => wpAny_of_MTk hL f _ a' w'' h3) (wpOp_q (fun _ _ _ _ h => h.elim) h2)

theorem wpAnyMT_firstk {n i : Nat} {oi : Oper} {v : Value} {L : Array Bool → Act → World → Prop} (hi : ops[i]? = some oi) (hsel : ∀ (j : Nat) (o : Oper) cs b, ops[j]? = some o → o.op ≠ .select cs b)
    (hs : Region.sinkB md ops n = true) (hc : Region.chainB md ops n = true) (hn : n < ops.size) (hin : i < n)
    (hdone : ∀ listed a w, L listed a w → ∀ j ∈ Region.ready md ops listed, n ≤ j) :
    ∀ (f : Nat) (listed : Array Bool) (a : Act) (w : World), HeadInv md ops n listed →
      (∀ j oj, ops[j]? = some oj → j ≠ i → listed.getD j true = false → (∀ e ∈ oj.after, Region.binds md e = true → e.on ≠ i) → oi.apart ops oj = true) →
      i ∈ Region.ready md ops listed → MYDk S P ops w oi v a →
      wpAnyMTk S P md ops n L f (listed.setIfInBounds i true) (a.put oi.dst v) w → wpAnyMTk S P md ops n L (f + 1) listed a w := by
  have here : ∀ {K : Act → World → Prop} {a : Act} {w : World}, MYDk S P ops w oi v a → K (a.put oi.dst v) w → mOpDk S P ops i K a w := fun hy H => by
    unfold mOpDk; simp only [hi]; exact .inl ⟨v, hy, H⟩
  intro f
  induction f with
  | zero =>
    intro listed a w inv _ hr hy H
    have hun := (mem_ready.1 hr).1
    refine ⟨fun h => (by rw [h] at hr; cases hr), fun j hj => ?_⟩
    have hjn : j < n := by
      rcases Nat.lt_or_ge j n with h | h
      · exact h
      · exact absurd hj (tail_waits hs hc hn inv _ i rfl hin hun j h)
    refine ⟨hjn, ?_⟩
    by_cases hji : j = i
    · subst hji; exact here hy H
    · have := hdone _ _ _ H j (ready_mono hj hji)
      omega
  | succ f ih =>
    intro listed a w inv hfree hr hy H
    have hun := (mem_ready.1 hr).1
    refine ⟨fun h => (by rw [h] at hr; cases hr), fun j hj => ?_⟩
    have hjn : j < n := by
      rcases Nat.lt_or_ge j n with h | h
      · exact h
      · exact absurd hj (tail_waits hs hc hn inv _ i rfl hin hun j h)
    refine ⟨hjn, ?_⟩
    by_cases hji : j = i
    · subst hji; exact here hy H
    · have h1 := (H.2 j (ready_mono hj hji)).2
      obtain ⟨hjun, oj, hoj, hall⟩ := mem_ready.1 hj
      have hnot : ∀ e ∈ oj.after, Region.binds md e = true → e.on ≠ i := fun e he hb heq => by
        have h1 := hall e he hb
        rw [heq, getD_both hun] at h1
        cases h1
      have h2 := mOp_putDk hoj (hfree j oj hoj hji hjun hnot) (fun cs b => hsel i oi cs b hi) (fun cs b => hsel j oj cs b hoj) hy h1
      have hfree' : ∀ k ok, ops[k]? = some ok → k ≠ i → (listed.setIfInBounds j true).getD k true = false →
          (∀ e ∈ ok.after, Region.binds md e = true → e.on ≠ i) → oi.apart ops ok = true := fun k ok hk hki hun hno => by
        refine hfree k ok hk hki ?_ hno
        by_cases hjk : j = k
        · subst hjk; exact hjun
        · rw [getD_set_ne true hjk] at hun; exact hun
      refine mOp_monoDk (fun a' w' h3 => ih (listed.setIfInBounds j true) a' w' (inv.set hj hjn) hfree' (ready_mono hr (Ne.symm hji)) h3.1 ?_) h2
      rw [Array.setIfInBounds_comm _ _ hji]
      exact h3.2
end

def mixFromTk (M : List Nat) (md : Region.Mode) (ops : Array Oper) (n : Nat) : List Nat → Array Bool → Bool
  | [], listed => Region.seqB md ops (ops.size - n) n listed
  | i :: rest, listed => (match ops[i]? with
    | none => false
    | some o => if calmK o || M.contains i then (Region.ready md ops listed).contains i && Region.free md ops listed i else decide (Region.ready md ops listed = [i])) && mixFromTk M md ops n rest (listed.setIfInBounds i true)
def mixBTk (M : List Nat) (l : List Oper) (n : Nat) (ord : List Nat) : Bool :=
  Region.noSelect l.toArray && decide (n < l.toArray.size) && decide (ord.length = n) && ord.all (fun i => decide (i < n)) && Region.sinkB .any l.toArray n && Region.chainB .any l.toArray n && mixFromTk M .any l.toArray n ord (Array.replicate l.toArray.size false)

section
variable {S : Nat → Prop} {P : Program} {M : List Nat} {l : List Oper} {Q : Exit → Act → World → Prop} {md : Region.Mode}

/-- What the tail needs: it is alone, and its walk stands in every world that the head may leave. -/
def TailMTk (P : Program) (md : Region.Mode) (l : List Oper) (n : Nat) (Q : Exit → Act → World → Prop) (listed : Array Bool) (a : Act) (w : World) : Prop :=
  Region.seqB md l.toArray (l.toArray.size - n) n listed = true ∧ wpList P l.toArray Q (l.drop n) a w

theorem wpAnyMT_mixk {n : Nat} {L : Exit → Act → World → Prop} (hsel : Region.noSelect l.toArray = true) (hs : Region.sinkB md l.toArray n = true) (hc : Region.chainB md l.toArray n = true) (hn : n < l.toArray.size)
    (hL : ∀ a w, L .normal a w → wpList P l.toArray Q (l.drop n) a w) : ∀ (ord : List Nat) (listed : Array Bool) (a : Act) (w : World), (∀ i ∈ ord, i < n) → HeadInv md l.toArray n listed → mixFromTk M md l.toArray n ord listed = true → wpMixDk S P M l L ord a w → wpAnyMTk S P md l.toArray n (TailMTk P md l n Q) ord.length listed a w
  | [], listed, a, w, _, _, hB, h => ⟨hB, hL _ _ h⟩
  | i :: ord, listed, a, w, hlt, inv, hB, h => by
    simp only [mixFromTk, Bool.and_eq_true] at hB
    obtain ⟨hB1, hB2⟩ := hB
    have hin : i < n := hlt i (by simp)
    have hlt' : ∀ j ∈ ord, j < n := fun j hj => hlt j (by simp [hj])
    have hdone : ∀ listed a w, TailMTk P md l n Q listed a w → ∀ j ∈ Region.ready md l.toArray listed, n ≤ j := fun _ _ _ hL => seqB_ready hL.1
    have hll : l.toArray[i]? = l[i]? := by simp
    rw [hll] at hB1
    unfold wpMixDk at h
    cases ho : l[i]? with
    | none => rw [ho] at hB1; simp at hB1
    | some o =>
      rw [ho] at hB1 h
      rw [ho] at hll
      simp only [] at hB1 h
      by_cases hc' : calmK o = true
      · rw [if_pos (by rw [hc']; rfl)] at hB1
        rw [if_pos hc'] at h
        simp only [Bool.and_eq_true] at hB1
        obtain ⟨hr, hf⟩ := hB1
        have hr' : i ∈ Region.ready md l.toArray listed := by simpa using hr
        have : ∃ v, MYDk S P l.toArray w o v a ∧ wpMixDk S P M l L ord (a.put o.dst v) w := by
          unfold wpQuiet at h
          by_cases hw : Region.wanted o (yielded l.toArray a.tmps) = true
          · rw [if_pos hw] at h
            obtain ⟨v, h1, h2⟩ := h
            refine ⟨v, .inl ⟨hw, fun w' hw' => ?_⟩, h2⟩
            have h3 := h1 w' hw'
            unfold Oper.quietAt at h3
            cases hr : (execOp a.eval o).run P w' with
            | ok n w2 =>
              rw [hr] at h3
              cases n <;> simp only [Oper.quietUpon] at h3
              case value u => obtain ⟨rfl, rfl⟩ := h3; exact .inl rfl
              case skip => obtain ⟨rfl, rfl⟩ := h3; exact .inr (.inl ⟨rfl, rfl⟩)
              case enter f args => exact (calm_enterK hc' hr).elim
            | halt x w2 => rw [hr] at h3; simp only [Oper.quietUpon] at h3
          · rw [if_neg hw] at h
            exact ⟨undef, .inr ⟨by simpa using hw, rfl⟩, h⟩
        obtain ⟨v, hy, hK⟩ := this
        exact wpAnyMT_firstk hll (Region.noSelect_spec hsel) hs hc hn hin hdone ord.length listed a w inv (Region.free_spec hll hf) hr' hy (wpAnyMT_mixk hsel hs hc hn hL ord _ _ w hlt' (inv.set hr' hin) hB2 hK)
      · by_cases hM : M.contains i = true
        · rw [if_pos (by rw [hM, Bool.or_true])] at hB1
          rw [if_neg hc', if_pos hM] at h
          simp only [Bool.and_eq_true] at hB1
          obtain ⟨hr, hf⟩ := hB1
          have hr' : i ∈ Region.ready md l.toArray listed := by simpa using hr
          obtain ⟨v, f, args, hw, h1, h2, hK⟩ := h
          have hy : MYDk S P l.toArray w o v a := .inl ⟨hw, fun w' hw' => by obtain ⟨p, rfl⟩ := hw'; exact .inr (.inr ⟨f, args, h1 p, h2 p⟩)⟩
          exact wpAnyMT_firstk hll (Region.noSelect_spec hsel) hs hc hn hin hdone ord.length listed a w inv (Region.free_spec hll hf) hr' hy (wpAnyMT_mixk hsel hs hc hn hL ord _ _ w hlt' (inv.set hr' hin) hB2 hK)
        rw [if_neg (by simp only [Bool.or_eq_true]; rintro (h9 | h9); exact hc' h9; exact hM h9)] at hB1
        rw [if_neg hc', if_neg hM] at h
        have hr : Region.ready md l.toArray listed = [i] := by simpa using hB1
        have hr' : i ∈ Region.ready md l.toArray listed := by rw [hr]; simp
        refine ⟨fun h0 => (by rw [hr] at h0; cases h0), fun j hj => ?_⟩
        rw [hr, List.mem_singleton] at hj
        subst hj
        refine ⟨hin, ?_⟩
        unfold mOpDk
        rw [hll]
        refine .inr ?_
        have h1 := h
        unfold wpList at h1
        unfold wpOp
        rw [hll]
        simp only [] at h1 ⊢
        split
        · rename_i hw
          rw [if_pos hw] at h1
          rcases h1 with h1 | ⟨_, _, _, h1, _⟩
          · refine .inl (Oper.wp_q (Q := fun e a' w'' => e = .normal ∧ (∃ p : Kept S w, w'' = p.v) ∧ wpMixDk S P M l L ord a' w'') (fun e a w he hq => (he hq.1).elim) ?_)
            refine Oper.wp_mono ?_ h1
            exact fun a' w'' h2 => ⟨h2.2.1, wpAnyMT_mixk hsel hs hc hn hL ord _ a' w'' hlt' (inv.set hr' hin) hB2 h2.2.2⟩
          · cases h1
        · rename_i hw
          rw [if_neg hw] at h1
          exact ⟨h1.2.1, wpAnyMT_mixk hsel hs hc hn hL ord _ _ w hlt' (inv.set hr' hin) hB2 h1.2.2⟩

/-- **One walk of the head's order that is laid, and of the tail behind it, serves every order.** -/
theorem wp_region_mixTk {id : Nat} {a : Act} {w : World} (S : Nat → Prop) (n : Nat) (ord : List Nat) (hm : P.follows .mixedOrders = true) (hB : mixBTk M l n ord = true)
    (h : wpMixDk S P M l (fun _ a' w' => wpList P l.toArray Q (l.drop n) a' w') ord a w.drew) : (Code.region id l.toArray true).wp P Q a w := by
  simp only [mixBTk, Bool.and_eq_true, decide_eq_true_eq, List.all_eq_true] at hB
  obtain ⟨⟨⟨⟨⟨⟨hsel, hn⟩, hlen⟩, hlt⟩, hs⟩, hc⟩, hB⟩ := hB
  have hdl : (l.drop n).length = l.toArray.size - n := by simp
  have inv0 : HeadInv .any l.toArray n (Array.replicate l.toArray.size false) :=
    ⟨by simp, fun j oj _ hl => (by rw [getD_replicate_false] at hl; cases hl), fun t _ ht => getD_in (by simpa using ht) (getD_replicate_false _ _)⟩
  have H := wpAnyMT_mixk (md := .any) (Q := Q) hsel hs hc hn (fun _ _ h => h) ord _ a w.drew hlt inv0 hB h
  refine wp_region_any hm ?_
  have := wpAny_of_MTk (S := S) (Q := Q) (g := l.toArray.size - n) (fun listed a' w hL => by
    have := wpAny_of_seq (md := .any) (Q' := Q) (l.drop n) n listed a' w (fun j => by simp [List.getElem?_drop]) (by rw [hdl]; exact hL.1) hL.2
    rwa [hdl] at this) _ _ _ _ H
  rw [hlen, show n + (l.toArray.size - n) = l.toArray.size by omega] at this
  exact this
end
end Go.Proofs.YtimmfcbpdnlfjaaDoor

namespace Go.Proofs.YtimmfcbpdnlfjaaDoor
open Go.RowKit Go.Sort

def nilK (o : Oper) : Bool := match o.op with | .nilCheck _ => true | _ => false
theorem calm_enterL {P : Program} {w w' : World} {f : FuncId} {args : Array Value} {o : Oper} {ρ : Operand → Value} (hc : (calmK o || nilK o) = true) (h : (execOp ρ o).run P w = .ok (.enter f args) w') : False := by
  rw [Bool.or_eq_true] at hc
  rcases hc with hc | hc
  · exact calm_enterK hc h
  · unfold nilK at hc
    unfold execOp at h
    split at hc
    case h_1 x hop =>
      simp only [hop] at h
      split at h
      case h_4 =>
        split at h
        case h_2 =>
          rw [Sem.run_bind] at h
          revert h
          generalize Sem.run P program w = r1
          intro h
          cases r1 with
          | halt _ _ => simp [Result.andThen] at h
          | ok p w1 =>
            simp only [Result.andThen] at h
            rw [Sem.run_bind] at h
            revert h
            generalize Sem.run P (nilAhead _ _ _ _) w1 = r2
            intro h
            cases r2 with
            | halt _ _ => simp [Result.andThen] at h
            | ok q w2 =>
              simp only [Result.andThen] at h
              split at h
              · rw [Sem.run_bind] at h
                revert h
                generalize Sem.run P (unsupported _) w2 = r3
                intro h
                cases r3 with
                | halt _ _ => simp [Result.andThen] at h
                | ok _ _ => simp [Result.andThen, Sem.run_pure] at h
              · simp [Sem.run_pure] at h
        all_goals first | (simp [Sem.run_pure] at h; done) | (simp [runtimePanic, go_sem] at h; done)
      all_goals first | (simp [Sem.run_pure] at h; done) | (simp [runtimePanic, go_sem] at h; done)
    case h_2 => cases hc
def calmL (N : List Nat) (i : Nat) (o : Oper) : Bool := (calmK o || nilK o) && !N.contains i
def wpMixL (S : Nat → Prop) (P : Program) (N : List Nat) (l : List Oper) (Q : Exit → Act → World → Prop) : List Nat → Act → World → Prop
  | [], a, w => Q .normal a w
  | i :: rest, a, w => match l[i]? with
    | none => False
    | some o => if calmL N i o then wpQuiet P l.toArray (fun w' => ∃ p : Kept S w, w' = p.v) (fun a' => wpMixL S P N l Q rest a' w) [o] a
      else wpList P l.toArray (fun e a' w'' => e = .normal ∧ (∃ p : Kept S w, w'' = p.v) ∧ wpMixL S P N l Q rest a' w'') [o] a w
def mixFromL (N : List Nat) (md : Region.Mode) (ops : Array Oper) : List Nat → Array Bool → Bool
  | [], listed => (Region.ready md ops listed).isEmpty
  | i :: rest, listed => (match ops[i]? with
    | none => false
    | some o => if calmL N i o then (Region.ready md ops listed).contains i && Region.free md ops listed i else Region.ready md ops listed == [i]) && mixFromL N md ops rest (listed.setIfInBounds i true)
def mixBL (N : List Nat) (l : List Oper) (ord : List Nat) : Bool := Region.noSelect l.toArray && decide (ord.length = l.length) && mixFromL N .any l.toArray ord (Array.replicate l.length false)

section
variable {S : Nat → Prop} {P : Program} {N : List Nat} {l : List Oper} {Q : Exit → Act → World → Prop} {md : Region.Mode}
theorem wpAnyM_mixL (hs : Region.noSelect l.toArray = true) : ∀ (ord : List Nat) (listed : Array Bool) (a : Act) (w : World), mixFromL N md l.toArray ord listed = true → wpMixL S P N l Q ord a w → wpAnyMDk S P md l.toArray Q ord.length listed a w
  | [], listed, a, w, hB, h => ⟨by simpa [mixFromL] using hB, h⟩
  | i :: ord, listed, a, w, hB, h => by
    simp only [mixFromL, Bool.and_eq_true] at hB
    obtain ⟨hB1, hB2⟩ := hB
    have hll : l.toArray[i]? = l[i]? := by simp
    rw [hll] at hB1
    unfold wpMixL at h
    cases ho : l[i]? with
    | none => rw [ho] at hB1; simp at hB1
    | some o =>
      rw [ho] at hB1 h
      rw [ho] at hll
      simp only [] at hB1 h
      by_cases hc : calmL N i o = true
      · rw [if_pos hc] at hB1
        rw [if_pos hc] at h
        have hck : (calmK o || nilK o) = true := by unfold calmL at hc; rw [Bool.and_eq_true] at hc; exact hc.1
        simp only [Bool.and_eq_true] at hB1
        obtain ⟨hr, hf⟩ := hB1
        have : ∃ v, MYDk S P l.toArray w o v a ∧ wpMixL S P N l Q ord (a.put o.dst v) w := by
          unfold wpQuiet at h
          by_cases hw : Region.wanted o (yielded l.toArray a.tmps) = true
          · rw [if_pos hw] at h
            obtain ⟨v, h1, h2⟩ := h
            refine ⟨v, .inl ⟨hw, fun w' hw' => ?_⟩, h2⟩
            have h3 := h1 w' hw'
            unfold Oper.quietAt at h3
            cases hr : (execOp a.eval o).run P w' with
            | ok n w2 =>
              rw [hr] at h3
              cases n <;> simp only [Oper.quietUpon] at h3
              case value u => obtain ⟨rfl, rfl⟩ := h3; exact .inl rfl
              case skip => obtain ⟨rfl, rfl⟩ := h3; exact .inr (.inl ⟨rfl, rfl⟩)
              case enter f args => exact (calm_enterL hck hr).elim
            | halt x w2 => rw [hr] at h3; simp only [Oper.quietUpon] at h3
          · rw [if_neg hw] at h
            exact ⟨undef, .inr ⟨by simpa using hw, rfl⟩, h⟩
        obtain ⟨v, hy, hK⟩ := this
        exact wpAnyM_firstDk hll (Region.noSelect_spec hs) ord.length listed a w (Region.free_spec hll hf) (by simpa using hr) hy (wpAnyM_mixL hs ord _ _ w hB2 hK)
      · rw [if_neg hc] at hB1
        rw [if_neg hc] at h
        have hr : Region.ready md l.toArray listed = [i] := by simpa using hB1
        refine ⟨fun h0 => (by rw [hr] at h0; cases h0), fun j hj => ?_⟩
        rw [hr, List.mem_singleton] at hj
        subst hj
        unfold mOpDk
        rw [hll]
        refine .inr ?_
        have h1 := h
        unfold wpList at h1
        unfold wpOp
        rw [hll]
        simp only [] at h1 ⊢
        split
        · rename_i hw
          rw [if_pos hw] at h1
          rcases h1 with h1 | ⟨_, _, _, h1, _⟩
          · refine .inl (Oper.wp_q (Q := fun e a' w'' => e = .normal ∧ (∃ p : Kept S w, w'' = p.v) ∧ wpMixL S P N l Q ord a' w'') (fun e a w he hq => (he hq.1).elim) ?_)
            refine Oper.wp_mono ?_ h1
            exact fun a' w'' h2 => ⟨h2.2.1, wpAnyM_mixL hs ord _ a' w'' hB2 h2.2.2⟩
          · cases h1
        · rename_i hw
          rw [if_neg hw] at h1
          exact ⟨h1.2.1, wpAnyM_mixL hs ord _ _ w hB2 h1.2.2⟩
theorem wp_region_mixL {id : Nat} {a : Act} {w : World} (S : Nat → Prop) (N : List Nat) (ord : List Nat) (hm : P.follows .mixedOrders = true) (hB : mixBL N l ord = true) (h : wpMixL S P N l Q ord a w.drew) : (Code.region id l.toArray true).wp P Q a w := by
  simp only [mixBL, Bool.and_eq_true, decide_eq_true_eq] at hB
  obtain ⟨⟨hs, hl⟩, hB⟩ := hB
  refine wp_region_any hm (wpAny_of_MDk (S := S) _ _ _ _ ?_)
  have := wpAnyM_mixL (md := .any) hs ord _ a w.drew hB h
  rw [hl] at this
  simpa using this
theorem mix_endL {a : Act} {w : World} (h : Q .normal a w) : wpMixL S P N l Q [] a w := h
theorem mix_calmL {a : Act} {w : World} {i : Nat} {rest : List Nat} {o : Oper} {t : List Oper} (h0 : l.drop i = o :: t) (hc : calmL N i o = true)
    (h : wpQuiet P l.toArray (fun w' => ∃ p : Kept S w, w' = p.v) (fun a' => wpMixL S P N l Q rest a' w) [o] a) : wpMixL S P N l Q (i :: rest) a w := by
  have hl : l[i]? = some o := by have := congrArg (·[0]?) h0; simpa using this
  unfold wpMixL
  rw [hl]
  simp only [hc, if_true]
  exact h
theorem mix_loudL {a : Act} {w : World} {i : Nat} {rest : List Nat} {o : Oper} {t : List Oper} (h0 : l.drop i = o :: t) (hc : calmL N i o = false)
    (h : ∀ K : Exit → Act → World → Prop, (∀ a' w'', Stand S w w'' → wpMixL S P N l Q rest a' w'' → K .normal a' w'') → wpList P l.toArray K [o] a w) : wpMixL S P N l Q (i :: rest) a w := by
  have hl : l[i]? = some o := by have := congrArg (·[0]?) h0; simpa using this
  unfold wpMixL
  rw [hl]
  simp only [hc, Bool.false_eq_true, if_false]
  exact h _ fun a' w'' h1 h2 => ⟨rfl, kp_of h1, h2⟩
end
end Go.Proofs.YtimmfcbpdnlfjaaDoor
