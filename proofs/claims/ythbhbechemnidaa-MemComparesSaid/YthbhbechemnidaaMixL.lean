/- As XMixK, where some pure operations (N) are walked in the world as it is: such a one must be the only one that is ready. So a cell may be read and then written in one region. No program is named here, and nothing is assumed. -/
import Derived.Test.YthbhbechemnidaaMixK
namespace Go.Proofs.Ythbhbechemnidaa
open Go.RowKit Go.Sort

def nilK (o : Oper) : Bool := match o.op with | .nilCheck _ => true | _ => false
theorem calm_enterL {P : Program} {w w' : World} {f : FuncId} {args : Array Value} {o : Oper} {ρ : Operand → Value} (hc : (calmK o || nilK o) = true) (h : (execOp ρ o).run P w = .ok (.enter f args) w') : False := by
  rw [Bool.or_eq_true] at hc
  rcases hc with hc | hc
  · exact calm_enterK hc h
  · unfold nilK at hc
    unfold execOp at h
    split at hc
    case h_1 x hop =>
      simp only [hop] at h
      split at h
      case h_4 =>
        split at h
        case h_2 =>
          rw [Sem.run_bind] at h
          revert h
          generalize Sem.run P program w = r1
          intro h
          cases r1 with
          | halt _ _ => simp [Result.andThen] at h
          | ok p w1 =>
            simp only [Result.andThen] at h
            rw [Sem.run_bind] at h
            revert h
            generalize Sem.run P (nilAhead _ _ _ _) w1 = r2
            intro h
            cases r2 with
            | halt _ _ => simp [Result.andThen] at h
            | ok q w2 =>
              simp only [Result.andThen] at h
              split at h
              · rw [Sem.run_bind] at h
                revert h
                generalize Sem.run P (unsupported _) w2 = r3
                intro h
                cases r3 with
                | halt _ _ => simp [Result.andThen] at h
                | ok _ _ => simp [Result.andThen, Sem.run_pure] at h
              · simp [Sem.run_pure] at h
        all_goals first | (simp [Sem.run_pure] at h; done) | (simp [runtimePanic, go_sem] at h; done)
      all_goals first | (simp [Sem.run_pure] at h; done) | (simp [runtimePanic, go_sem] at h; done)
    case h_2 => cases hc
def calmL (N : List Nat) (i : Nat) (o : Oper) : Bool := (calmK o || nilK o) && !N.contains i
def wpMixL (S : Nat → Prop) (P : Program) (N : List Nat) (l : List Oper) (Q : Exit → Act → World → Prop) : List Nat → Act → World → Prop
  | [], a, w => Q .normal a w
  | i :: rest, a, w => match l[i]? with
    | none => False
    | some o => if calmL N i o then wpQuiet P l.toArray (fun w' => ∃ p : Kept S w, w' = p.v) (fun a' => wpMixL S P N l Q rest a' w) [o] a
      else wpList P l.toArray (fun e a' w'' => e = .normal ∧ (∃ p : Kept S w, w'' = p.v) ∧ wpMixL S P N l Q rest a' w'') [o] a w
def mixFromL (N : List Nat) (md : Region.Mode) (ops : Array Oper) : List Nat → Array Bool → Bool
  | [], listed => (Region.ready md ops listed).isEmpty
  | i :: rest, listed => (match ops[i]? with
    | none => false
    | some o => if calmL N i o then (Region.ready md ops listed).contains i && Region.free md ops listed i else Region.ready md ops listed == [i]) && mixFromL N md ops rest (listed.setIfInBounds i true)
def mixBL (N : List Nat) (l : List Oper) (ord : List Nat) : Bool := Region.noSelect l.toArray && decide (ord.length = l.length) && mixFromL N .any l.toArray ord (Array.replicate l.length false)

section
variable {S : Nat → Prop} {P : Program} {N : List Nat} {l : List Oper} {Q : Exit → Act → World → Prop} {md : Region.Mode}
theorem wpAnyM_mixL (hs : Region.noSelect l.toArray = true) : ∀ (ord : List Nat) (listed : Array Bool) (a : Act) (w : World), mixFromL N md l.toArray ord listed = true → wpMixL S P N l Q ord a w → wpAnyMDk S P md l.toArray Q ord.length listed a w
  | [], listed, a, w, hB, h => ⟨by simpa [mixFromL] using hB, h⟩
  | i :: ord, listed, a, w, hB, h => by
    simp only [mixFromL, Bool.and_eq_true] at hB
    obtain ⟨hB1, hB2⟩ := hB
    have hll : l.toArray[i]? = l[i]? := by simp
    rw [hll] at hB1
    unfold wpMixL at h
    cases ho : l[i]? with
    | none => rw [ho] at hB1; simp at hB1
    | some o =>
      rw [ho] at hB1 h
      rw [ho] at hll
      simp only [] at hB1 h
      by_cases hc : calmL N i o = true
      · rw [if_pos hc] at hB1
        rw [if_pos hc] at h
        have hck : (calmK o || nilK o) = true := by unfold calmL at hc; rw [Bool.and_eq_true] at hc; exact hc.1
        simp only [Bool.and_eq_true] at hB1
        obtain ⟨hr, hf⟩ := hB1
        have : ∃ v, MYDk S P l.toArray w o v a ∧ wpMixL S P N l Q ord (a.put o.dst v) w := by
          unfold wpQuiet at h
          by_cases hw : Region.wanted o (yielded l.toArray a.tmps) = true
          · rw [if_pos hw] at h
            obtain ⟨v, h1, h2⟩ := h
            refine ⟨v, .inl ⟨hw, fun w' hw' => ?_⟩, h2⟩
            have h3 := h1 w' hw'
            unfold Oper.quietAt at h3
            cases hr : (execOp a.eval o).run P w' with
            | ok n w2 =>
              rw [hr] at h3
              cases n <;> simp only [Oper.quietUpon] at h3
              case value u => obtain ⟨rfl, rfl⟩ := h3; exact .inl rfl
              case skip => obtain ⟨rfl, rfl⟩ := h3; exact .inr (.inl ⟨rfl, rfl⟩)
              case enter f args => exact (calm_enterL hck hr).elim
            | halt x w2 => rw [hr] at h3; simp only [Oper.quietUpon] at h3
          · rw [if_neg hw] at h
            exact ⟨undef, .inr ⟨by simpa using hw, rfl⟩, h⟩
        obtain ⟨v, hy, hK⟩ := this
        exact wpAnyM_firstDk hll (Region.noSelect_spec hs) ord.length listed a w (Region.free_spec hll hf) (by simpa using hr) hy (wpAnyM_mixL hs ord _ _ w hB2 hK)
      · rw [if_neg hc] at hB1
        rw [if_neg hc] at h
        have hr : Region.ready md l.toArray listed = [i] := by simpa using hB1
        refine ⟨fun h0 => (by rw [hr] at h0; cases h0), fun j hj => ?_⟩
        rw [hr, List.mem_singleton] at hj
        subst hj
        unfold mOpDk
        rw [hll]
        refine .inr ?_
        have h1 := h
        unfold wpList at h1
        unfold wpOp
        rw [hll]
        simp only [] at h1 ⊢
        split
        · rename_i hw
          rw [if_pos hw] at h1
          rcases h1 with h1 | ⟨_, _, _, h1, _⟩
          · refine .inl (Oper.wp_q (Q := fun e a' w'' => e = .normal ∧ (∃ p : Kept S w, w'' = p.v) ∧ wpMixL S P N l Q ord a' w'') (fun e a w he hq => (he hq.1).elim) ?_)
            refine Oper.wp_mono ?_ h1
            exact fun a' w'' h2 => ⟨h2.2.1, wpAnyM_mixL hs ord _ a' w'' hB2 h2.2.2⟩
          · cases h1
        · rename_i hw
          rw [if_neg hw] at h1
          exact ⟨h1.2.1, wpAnyM_mixL hs ord _ _ w hB2 h1.2.2⟩
theorem wp_region_mixL {id : Nat} {a : Act} {w : World} (S : Nat → Prop) (N : List Nat) (ord : List Nat) (hm : P.follows .mixedOrders = true) (hB : mixBL N l ord = true) (h : wpMixL S P N l Q ord a w.drew) : (Code.region id l.toArray true).wp P Q a w := by
  simp only [mixBL, Bool.and_eq_true, decide_eq_true_eq] at hB
  obtain ⟨⟨hs, hl⟩, hB⟩ := hB
  refine wp_region_any hm (wpAny_of_MDk (S := S) _ _ _ _ ?_)
  have := wpAnyM_mixL (md := .any) hs ord _ a w.drew hB h
  rw [hl] at this
  simpa using this
theorem mix_endL {a : Act} {w : World} (h : Q .normal a w) : wpMixL S P N l Q [] a w := h
theorem mix_calmL {a : Act} {w : World} {i : Nat} {rest : List Nat} {o : Oper} {t : List Oper} (h0 : l.drop i = o :: t) (hc : calmL N i o = true)
    (h : wpQuiet P l.toArray (fun w' => ∃ p : Kept S w, w' = p.v) (fun a' => wpMixL S P N l Q rest a' w) [o] a) : wpMixL S P N l Q (i :: rest) a w := by
  have hl : l[i]? = some o := by have := congrArg (·[0]?) h0; simpa using this
  unfold wpMixL
  rw [hl]
  simp only [hc, if_true]
  exact h
theorem mix_loudL {a : Act} {w : World} {i : Nat} {rest : List Nat} {o : Oper} {t : List Oper} (h0 : l.drop i = o :: t) (hc : calmL N i o = false)
    (h : ∀ K : Exit → Act → World → Prop, (∀ a' w'', Stand S w w'' → wpMixL S P N l Q rest a' w'' → K .normal a' w'') → wpList P l.toArray K [o] a w) : wpMixL S P N l Q (i :: rest) a w := by
  have hl : l[i]? = some o := by have := congrArg (·[0]?) h0; simpa using this
  unfold wpMixL
  rw [hl]
  simp only [hc, Bool.false_eq_true, if_false]
  exact h _ fun a' w'' h1 h2 => ⟨rfl, kp_of h1, h2⟩
end
end Go.Proofs.Ythbhbechemnidaa
