/- As XMix, and calls that leave the world as it was and hand back the same in every world (M: their places) may come up in any order. No program is named here, and nothing is assumed. -/
import Derived.Test.YtedegdojbhegdaaDoorMix
namespace Go.Proofs.YtedegdojbhegdaaDoor
open Go.RowKit Go.Sort

section
variable {P : Program} {ops : Array Oper} {md : Region.Mode}

/-- In state 'a', in every world that some calls may leave, operation 'o' yields 'v', and does nothing else. -/
def MYD (P : Program) (ops : Array Oper) (w : World) (o : Oper) (v : Value) (a : Act) : Prop :=
  (Region.wanted o (yielded ops a.tmps) = true ∧ ∀ w', (∃ p : Regrown, w' = grow (redrawn w p.d) p.os) → (execOp a.eval o).run P w' = .ok (.value v) w' ∨ ((execOp a.eval o).run P w' = .ok .skip w' ∧ v = undef) ∨ (∃ f args, (execOp a.eval o).run P w' = .ok (.enter f args) w' ∧ Calls P f args w' fun e w'' => e = .returned v ∧ w'' = w')) ∨
  (Region.wanted o (yielded ops a.tmps) = false ∧ v = undef)
theorem MYD.of_same {w : World} {o : Oper} {v : Value} {a a' : Act} (hy : MYD P ops w o v a) (he : execOp a'.eval o = execOp a.eval o)
    (hw : Region.wanted o (yielded ops a'.tmps) = Region.wanted o (yielded ops a.tmps)) : MYD P ops w o v a' := by
  unfold MYD at *
  rw [he, hw]
  exact hy
theorem MYD.later {w w1 : World} {o : Oper} {v : Value} {a : Act} (hy : MYD P ops w o v a) (h : ∃ p : Regrown, w1 = grow (redrawn w p.d) p.os) : MYD P ops w1 o v a := by
  rcases hy with ⟨h1, h2⟩ | h1
  · exact .inl ⟨h1, fun w' hw' => h2 w' (mix_trans h hw')⟩
  · exact .inr h1
theorem MYD.wpOp {w w' : World} {i : Nat} {o : Oper} {v : Value} {a : Act} {Q : Exit → Act → World → Prop} (hi : ops[i]? = some o) (hy : MYD P ops w o v a) (hw : ∃ p : Regrown, w' = grow (redrawn w p.d) p.os)
    {K : Act → World → Prop} (h : K (a.put o.dst v) w') : wpOp P ops Q i K a w' := by
  unfold Go.wpOp
  simp only [hi]
  rcases hy with ⟨h1, h2⟩ | ⟨h1, rfl⟩
  · rcases h2 w' hw with h3 | ⟨h3, rfl⟩ | ⟨f, args, h3, h4⟩
    · simp only [h1, if_true, Oper.wp, h3, Oper.upon]; exact .inl h
    · simp only [h1, if_true, Oper.wp, h3, Oper.upon]; exact .inl h
    · simp only [h1, if_true, Oper.wp, h3, Oper.upon]
      exact .inl (Calls.mono h4 fun e w'' he => by obtain ⟨rfl, rfl⟩ := he; exact h)
  · simp only [h1, Bool.false_eq_true, if_false]; exact h

def mOpD (P : Program) (ops : Array Oper) (i : Nat) (K : Act → World → Prop) (a : Act) (w : World) : Prop :=
  match ops[i]? with
  | none => False
  | some o => (∃ v, MYD P ops w o v a ∧ K (a.put o.dst v) w) ∨ (∀ w', (∃ p : Regrown, w' = grow (redrawn w p.d) p.os) → wpOp P ops noQ i (fun a' w'' => (∃ p : Regrown, w'' = grow (redrawn w p.d) p.os) ∧ K a' w'') a w')

theorem mOp_monoD {i : Nat} {K K' : Act → World → Prop} {a : Act} {w : World} (h : ∀ a w, K a w → K' a w) (hh : mOpD P ops i K a w) : mOpD P ops i K' a w := by
  unfold mOpD at *
  split
  · rename_i ho; simp only [ho] at hh
  · rename_i o ho
    simp only [ho] at hh
    rcases hh with ⟨v, h1, h2⟩ | h1
    · exact .inl ⟨v, h1, h _ _ h2⟩
    · exact .inr fun w' hw' => wpOp_mono (fun a w ⟨h2, h3⟩ => ⟨h2, h _ _ h3⟩) (h1 w' hw')

def wpAnyMD (P : Program) (md : Region.Mode) (ops : Array Oper) (Q : Exit → Act → World → Prop) : Nat → Array Bool → Act → World → Prop
  | 0, listed, a, w => Region.ready md ops listed = [] ∧ ∀ w', (∃ p : Regrown, w' = grow (redrawn w p.d) p.os) → Q .normal a w'
  | fuel + 1, listed, a, w => (Region.ready md ops listed = [] → ∀ w', (∃ p : Regrown, w' = grow (redrawn w p.d) p.os) → Q .normal a w') ∧
    ∀ i ∈ Region.ready md ops listed, mOpD P ops i (wpAnyMD P md ops Q fuel (listed.setIfInBounds i true)) a w

theorem wpAny_of_MD {Q : Exit → Act → World → Prop} : ∀ (fuel : Nat) (listed : Array Bool) (a : Act) (w w' : World), (∃ p : Regrown, w' = grow (redrawn w p.d) p.os) → wpAnyMD P md ops Q fuel listed a w → wpAny P md ops Q fuel listed a w'
  | 0, _, _, _, w', hw, h => ⟨h.1, h.2 w' hw⟩
  | fuel + 1, listed, a, w, w', hw, h => by
    refine ⟨fun h0 => h.1 h0 w' hw, fun i hi => ?_⟩
    have h1 := h.2 i hi
    unfold mOpD at h1
    split at h1
    · exact h1.elim
    · rename_i o ho
      rcases h1 with ⟨v, h2, h3⟩ | h2
      · exact h2.wpOp ho hw (wpAny_of_MD fuel _ _ w w' hw h3)
      · exact wpOp_mono (fun a' w'' ⟨_, h3⟩ => wpAny_of_MD fuel _ a' w'' w'' (mix_refl w'') h3) (wpOp_q (fun _ _ _ _ h => h.elim) (h2 w' hw))

theorem mOp_putD {j : Nat} {oi oj : Oper} {v : Value} {w : World} (hj : ops[j]? = some oj) (hap : oi.apart ops oj = true)
    (hsi : ∀ cs b, oi.op ≠ .select cs b) (hsj : ∀ cs b, oj.op ≠ .select cs b) {K : Act → World → Prop} {a : Act}
    (hy : MYD P ops w oi v a) (h : mOpD P ops j K (a.put oi.dst v) w) : mOpD P ops j (fun a' w' => MYD P ops w' oi v a' ∧ K (a'.put oi.dst v) w') a w := by
  obtain ⟨h1, h2, h3⟩ := Oper.apart_spec hap
  have keep : ∀ (a : Act) u, MYD P ops w oi v a → MYD P ops w oi v (a.put oj.dst u) := fun a u hy =>
    hy.of_same (execOp_put oi hsi a oj.dst u h3) (wanted_put oi a oj.dst u h3)
  unfold mOpD at *
  simp only [hj] at h ⊢
  rcases h with ⟨u, hu, hn⟩ | h
  · refine .inl ⟨u, hu.of_same (execOp_put oj hsj a oi.dst v h1).symm (wanted_put oj a oi.dst v h1).symm, keep a u hy, ?_⟩
    rw [← Act.put_comm a v u h2]; exact hn
  · refine .inr fun w' hw' => ?_
    refine wpOp_mono ?_ (wpOp_putJ (J := MYD P ops w oi v) hj hap hsj keep (fun a d hy => hy.of_same rfl rfl) hy (h w' hw'))
    exact fun a' w'' ⟨h4, h5, h6⟩ => ⟨h5, h4.later h5, h6⟩

theorem wpAnyM_firstD {Q : Exit → Act → World → Prop} {i : Nat} {oi : Oper} {v : Value} (hi : ops[i]? = some oi) (hsel : ∀ (j : Nat) (o : Oper) cs b, ops[j]? = some o → o.op ≠ .select cs b) :
    ∀ (fuel : Nat) (listed : Array Bool) (a : Act) (w : World),
      (∀ j oj, ops[j]? = some oj → j ≠ i → listed.getD j true = false → (∀ e ∈ oj.after, Region.binds md e = true → e.on ≠ i) → oi.apart ops oj = true) →
      i ∈ Region.ready md ops listed → MYD P ops w oi v a →
      wpAnyMD P md ops Q fuel (listed.setIfInBounds i true) (a.put oi.dst v) w → wpAnyMD P md ops Q (fuel + 1) listed a w := by
  have here : ∀ {K : Act → World → Prop} {a : Act} {w : World}, MYD P ops w oi v a → K (a.put oi.dst v) w → mOpD P ops i K a w := fun hy H => by
    unfold mOpD; simp only [hi]; exact .inl ⟨v, hy, H⟩
  intro fuel
  induction fuel with
  | zero =>
    intro listed a w _ hr hy H
    refine ⟨fun h => (by rw [h] at hr; cases hr), fun j hj => ?_⟩
    by_cases hji : j = i
    · subst hji; exact here hy H
    · have := ready_mono hj hji
      rw [H.1] at this
      cases this
  | succ fuel ih =>
    intro listed a w hfree hr hy H
    refine ⟨fun h => (by rw [h] at hr; cases hr), fun j hj => ?_⟩
    by_cases hji : j = i
    · subst hji; exact here hy H
    · have h1 := H.2 j (ready_mono hj hji)
      obtain ⟨hjun, oj, hoj, hall⟩ := mem_ready.1 hj
      have hnot : ∀ e ∈ oj.after, Region.binds md e = true → e.on ≠ i := fun e he hb heq => by
        have h1 := hall e he hb
        have h0 := (mem_ready.1 hr).1
        rw [heq] at h1
        rcases Nat.lt_or_ge i listed.size with h' | h'
        · simp [h'] at h0 h1; rw [h0] at h1; cases h1
        · simp [Array.getElem?_eq_none h'] at h1
      have h2 := mOp_putD hoj (hfree j oj hoj hji hjun hnot) (fun cs b => hsel i oi cs b hi) (fun cs b => hsel j oj cs b hoj) hy h1
      have hfree' : ∀ k ok, ops[k]? = some ok → k ≠ i → (listed.setIfInBounds j true).getD k true = false →
          (∀ e ∈ ok.after, Region.binds md e = true → e.on ≠ i) → oi.apart ops ok = true := fun k ok hk hki hun hno => by
        refine hfree k ok hk hki ?_ hno
        by_cases hjk : j = k
        · subst hjk; exact hjun
        · rw [getD_set_ne true hjk] at hun; exact hun
      refine mOp_monoD (fun a' w' h3 => ih (listed.setIfInBounds j true) a' w' hfree' (ready_mono hr (Ne.symm hji)) h3.1 ?_) h2
      rw [Array.setIfInBounds_comm _ _ hji]
      exact h3.2
end

/-- The walk in the order that is laid. -/
def wpMixD (P : Program) (M : List Nat) (l : List Oper) (Q : Exit → Act → World → Prop) : List Nat → Act → World → Prop
  | [], a, w => ∀ w', (∃ p : Regrown, w' = grow (redrawn w p.d) p.os) → Q .normal a w'
  | i :: rest, a, w => match l[i]? with
    | none => False
    | some o => if calm o then wpQuiet P l.toArray (fun w' => ∃ p : Regrown, w' = grow (redrawn w p.d) p.os) (fun a' => wpMixD P M l Q rest a' w) [o] a
      else if M.contains i then ∃ v f args, Region.wanted o (yielded l.toArray a.tmps) = true ∧ (∀ w', (execOp a.eval o).run P w' = .ok (.enter f args) w') ∧ (∀ w', Calls P f args w' fun e w'' => e = .returned v ∧ w'' = w') ∧ wpMixD P M l Q rest (a.put o.dst v) w
      else ∀ w', (∃ p : Regrown, w' = grow (redrawn w p.d) p.os) → wpList P l.toArray (fun e a' w'' => e = .normal ∧ (∃ p : Regrown, w'' = grow (redrawn w p.d) p.os) ∧ wpMixD P M l Q rest a' w'') [o] a w'

def mixFromD (M : List Nat) (md : Region.Mode) (ops : Array Oper) : List Nat → Array Bool → Bool
  | [], listed => (Region.ready md ops listed).isEmpty
  | i :: rest, listed => (match ops[i]? with
    | none => false
    | some o => if calm o || M.contains i then (Region.ready md ops listed).contains i && Region.free md ops listed i else Region.ready md ops listed == [i]) && mixFromD M md ops rest (listed.setIfInBounds i true)
def mixBD (M : List Nat) (l : List Oper) (ord : List Nat) : Bool := Region.noSelect l.toArray && decide (ord.length = l.length) && mixFromD M .any l.toArray ord (Array.replicate l.length false)

section
variable {P : Program} {M : List Nat} {l : List Oper} {Q : Exit → Act → World → Prop} {md : Region.Mode}

theorem wpAnyM_mixD (hs : Region.noSelect l.toArray = true) : ∀ (ord : List Nat) (listed : Array Bool) (a : Act) (w : World), mixFromD M md l.toArray ord listed = true → wpMixD P M l Q ord a w → wpAnyMD P md l.toArray Q ord.length listed a w
  | [], listed, a, w, hB, h => ⟨by simpa [mixFromD] using hB, h⟩
  | i :: ord, listed, a, w, hB, h => by
    simp only [mixFromD, Bool.and_eq_true] at hB
    obtain ⟨hB1, hB2⟩ := hB
    have hll : l.toArray[i]? = l[i]? := by simp
    rw [hll] at hB1
    unfold wpMixD at h
    cases ho : l[i]? with
    | none => rw [ho] at hB1; simp at hB1
    | some o =>
      rw [ho] at hB1 h
      rw [ho] at hll
      simp only [] at hB1 h
      by_cases hc : calm o = true
      · rw [if_pos (by rw [hc]; rfl)] at hB1
        rw [if_pos hc] at h
        simp only [Bool.and_eq_true] at hB1
        obtain ⟨hr, hf⟩ := hB1
        have : ∃ v, MYD P l.toArray w o v a ∧ wpMixD P M l Q ord (a.put o.dst v) w := by
          unfold wpQuiet at h
          by_cases hw : Region.wanted o (yielded l.toArray a.tmps) = true
          · rw [if_pos hw] at h
            obtain ⟨v, h1, h2⟩ := h
            refine ⟨v, .inl ⟨hw, fun w' hw' => ?_⟩, h2⟩
            have h3 := h1 w' hw'
            unfold Oper.quietAt at h3
            cases hr : (execOp a.eval o).run P w' with
            | ok n w2 =>
              rw [hr] at h3
              cases n <;> simp only [Oper.quietUpon] at h3
              case value u => obtain ⟨rfl, rfl⟩ := h3; exact .inl rfl
              case skip => obtain ⟨rfl, rfl⟩ := h3; exact .inr (.inl ⟨rfl, rfl⟩)
              case enter f args => exact (calm_enter hc hr).elim
            | halt x w2 => rw [hr] at h3; simp only [Oper.quietUpon] at h3
          · rw [if_neg hw] at h
            exact ⟨undef, .inr ⟨by simpa using hw, rfl⟩, h⟩
        obtain ⟨v, hy, hK⟩ := this
        exact wpAnyM_firstD hll (Region.noSelect_spec hs) ord.length listed a w (Region.free_spec hll hf) (by simpa using hr) hy (wpAnyM_mixD hs ord _ _ w hB2 hK)
      · by_cases hM : M.contains i = true
        · rw [if_pos (by rw [hM, Bool.or_true])] at hB1
          rw [if_neg hc, if_pos hM] at h
          simp only [Bool.and_eq_true] at hB1
          obtain ⟨hr, hf⟩ := hB1
          obtain ⟨v, f, args, hw, h1, h2, hK⟩ := h
          have hy : MYD P l.toArray w o v a := .inl ⟨hw, fun w' _ => .inr (.inr ⟨f, args, h1 w', h2 w'⟩)⟩
          exact wpAnyM_firstD hll (Region.noSelect_spec hs) ord.length listed a w (Region.free_spec hll hf) (by simpa using hr) hy (wpAnyM_mixD hs ord _ _ w hB2 hK)
        rw [if_neg (by simp only [Bool.or_eq_true]; rintro (h9 | h9); exact hc h9; exact hM h9)] at hB1
        rw [if_neg hc, if_neg hM] at h
        have hr : Region.ready md l.toArray listed = [i] := by simpa using hB1
        refine ⟨fun h0 => (by rw [hr] at h0; cases h0), fun j hj => ?_⟩
        rw [hr, List.mem_singleton] at hj
        subst hj
        unfold mOpD
        rw [hll]
        refine .inr fun w' hw' => ?_
        have h1 := h w' hw'
        unfold wpList at h1
        unfold wpOp
        rw [hll]
        simp only [] at h1 ⊢
        split
        · rename_i hw
          rw [if_pos hw] at h1
          rcases h1 with h1 | ⟨_, _, _, h1, _⟩
          · refine .inl (Oper.wp_q (Q := fun e a' w'' => e = .normal ∧ (∃ p : Regrown, w'' = grow (redrawn w p.d) p.os) ∧ wpMixD P M l Q ord a' w'') (fun e a w he hq => (he hq.1).elim) ?_)
            refine Oper.wp_mono ?_ h1
            exact fun a' w'' h2 => ⟨h2.2.1, wpAnyM_mixD hs ord _ a' w'' hB2 h2.2.2⟩
          · cases h1
        · rename_i hw
          rw [if_neg hw] at h1
          exact ⟨h1.2.1, wpAnyM_mixD hs ord _ _ w' hB2 h1.2.2⟩

/-- **One walk of an order that is laid serves every order.** -/
theorem wp_region_mixD {id : Nat} {a : Act} {w : World} (ord : List Nat) (hm : P.follows .mixedOrders = true) (hB : mixBD M l ord = true) (h : wpMixD P M l Q ord a w) : (Code.region id l.toArray true).wp P Q a w := by
  simp only [mixBD, Bool.and_eq_true, decide_eq_true_eq] at hB
  obtain ⟨⟨hs, hl⟩, hB⟩ := hB
  have hw : ∃ p : Regrown, ({ w with drawn := w.drawn + 1 } : World) = grow (redrawn w p.d) p.os := ⟨⟨w.drawn + 1, #[]⟩, by rw [grow_empty]; rfl⟩
  refine wp_region_any hm (wpAny_of_MD _ _ _ _ _ hw ?_)
  have := wpAnyM_mixD (md := .any) hs ord _ a w hB h
  rw [hl] at this
  simpa using this

theorem mix_endD {a : Act} {w : World} (h : ∀ w', (∃ p : Regrown, w' = grow (redrawn w p.d) p.os) → Q .normal a w') : wpMixD P M l Q [] a w := h
theorem mix_calmD {a : Act} {w : World} {i : Nat} {rest : List Nat} {o : Oper} {t : List Oper} (h0 : l.drop i = o :: t) (hc : calm o = true)
    (h : wpQuiet P l.toArray (fun w' => ∃ p : Regrown, w' = grow (redrawn w p.d) p.os) (fun a' => wpMixD P M l Q rest a' w) [o] a) : wpMixD P M l Q (i :: rest) a w := by
  have hl : l[i]? = some o := by have := congrArg (·[0]?) h0; simpa using this
  unfold wpMixD
  rw [hl]
  simp only [hc, if_true]
  exact h
theorem mix_mildD {a : Act} {w : World} {i : Nat} {rest : List Nat} {o : Oper} {t : List Oper} (h0 : l.drop i = o :: t) (hc : calm o = false) (hM : M.contains i = true) (v : Value) (f : FuncId) (args : Array Value) (hw : Region.wanted o (yielded l.toArray a.tmps) = true)
    (hr : ∀ w', (execOp a.eval o).run P w' = .ok (.enter f args) w') (hk : ∀ w', Calls P f args w' fun e w'' => e = .returned v ∧ w'' = w') (h : wpMixD P M l Q rest (a.put o.dst v) w) : wpMixD P M l Q (i :: rest) a w := by
  have hl : l[i]? = some o := by have := congrArg (·[0]?) h0; simpa using this
  unfold wpMixD
  rw [hl]
  simp only [hc, Bool.false_eq_true, if_false, hM, if_true]
  exact ⟨v, f, args, hw, hr, hk, h⟩
theorem mix_loudD {a : Act} {w : World} {i : Nat} {rest : List Nat} {o : Oper} {t : List Oper} (h0 : l.drop i = o :: t) (hc : calm o = false) (hM : M.contains i = false)
    (h : ∀ d os, ∀ K : Exit → Act → World → Prop, (∀ a' w'', Below w.heap.size w w'' → wpMixD P M l Q rest a' w'' → K .normal a' w'') → wpList P l.toArray K [o] a (grow (redrawn w d) os)) : wpMixD P M l Q (i :: rest) a w := by
  have hl : l[i]? = some o := by have := congrArg (·[0]?) h0; simpa using this
  unfold wpMixD
  rw [hl]
  simp only [hc, hM, Bool.false_eq_true, if_false]
  rintro w' ⟨p, rfl⟩
  exact h p.d p.os _ fun a' w'' h1 h2 => ⟨rfl, mix_of_below h1, h2⟩
end
end Go.Proofs.YtedegdojbhegdaaDoor
