/- As XMixD, and a tail in the text's own order behind it: the last operations, each of which is ready alone, may do what they like. No program is named here, and nothing is assumed. -/
import Derived.Test.YtedegdojbhegdaaDoorMixD
import Derived.StillTail
namespace Go.Proofs.YtedegdojbhegdaaDoor
open Go.RowKit Go.Sort

section
variable {P : Program} {ops : Array Oper} {md : Region.Mode}

def wpAnyMT (P : Program) (md : Region.Mode) (ops : Array Oper) (n : Nat) (L : Array Bool → Act → World → Prop) : Nat → Array Bool → Act → World → Prop
  | 0, listed, a, w => L listed a w
  | f + 1, listed, a, w => Region.ready md ops listed ≠ [] ∧ ∀ i ∈ Region.ready md ops listed, i < n ∧ mOpD P ops i (wpAnyMT P md ops n L f (listed.setIfInBounds i true)) a w

theorem wpAny_of_MT {Q : Exit → Act → World → Prop} {n g : Nat} {L : Array Bool → Act → World → Prop} (hL : ∀ listed a w w', (∃ p : Regrown, w' = grow (redrawn w p.d) p.os) → L listed a w → wpAny P md ops Q g listed a w') :
    ∀ (f : Nat) (listed : Array Bool) (a : Act) (w w' : World), (∃ p : Regrown, w' = grow (redrawn w p.d) p.os) → wpAnyMT P md ops n L f listed a w → wpAny P md ops Q (f + g) listed a w'
  | 0, _, _, _, w', hw, h => by rw [Nat.zero_add]; exact hL _ _ _ _ hw h
  | f + 1, listed, a, w, w', hw, h => by
    rw [show f + 1 + g = (f + g) + 1 by omega]
    refine ⟨fun h0 => absurd h0 h.1, fun i hi => ?_⟩
    have h1 := (h.2 i hi).2
    unfold mOpD at h1
    split at h1
    · exact h1.elim
    · rename_i o ho
      rcases h1 with ⟨v, h2, h3⟩ | h2
      · exact h2.wpOp ho hw (wpAny_of_MT hL f _ _ w w' hw h3)
      · exact wpOp_mono (fun a' w'' ⟨_, h3⟩ => wpAny_of_MT hL f _ a' w'' w'' (mix_refl w'') h3) (wpOp_q (fun _ _ _ _ h => h.elim) (h2 w' hw))

theorem wpAnyMT_first {n i : Nat} {oi : Oper} {v : Value} {L : Array Bool → Act → World → Prop} (hi : ops[i]? = some oi) (hsel : ∀ (j : Nat) (o : Oper) cs b, ops[j]? = some o → o.op ≠ .select cs b)
    (hs : Region.sinkB md ops n = true) (hc : Region.chainB md ops n = true) (hn : n < ops.size) (hin : i < n)
    (hdone : ∀ listed a w, L listed a w → ∀ j ∈ Region.ready md ops listed, n ≤ j) :
    ∀ (f : Nat) (listed : Array Bool) (a : Act) (w : World), HeadInv md ops n listed →
      (∀ j oj, ops[j]? = some oj → j ≠ i → listed.getD j true = false → (∀ e ∈ oj.after, Region.binds md e = true → e.on ≠ i) → oi.apart ops oj = true) →
      i ∈ Region.ready md ops listed → MYD P ops w oi v a →
      wpAnyMT P md ops n L f (listed.setIfInBounds i true) (a.put oi.dst v) w → wpAnyMT P md ops n L (f + 1) listed a w := by
  have here : ∀ {K : Act → World → Prop} {a : Act} {w : World}, MYD P ops w oi v a → K (a.put oi.dst v) w → mOpD P ops i K a w := fun hy H => by
    unfold mOpD; simp only [hi]; exact .inl ⟨v, hy, H⟩
  intro f
  induction f with
  | zero =>
    intro listed a w inv _ hr hy H
    have hun := (mem_ready.1 hr).1
    refine ⟨fun h => (by rw [h] at hr; cases hr), fun j hj => ?_⟩
    have hjn : j < n := by
      rcases Nat.lt_or_ge j n with h | h
      · exact h
      · exact absurd hj (tail_waits hs hc hn inv _ i rfl hin hun j h)
    refine ⟨hjn, ?_⟩
    by_cases hji : j = i
    · subst hji; exact here hy H
    · have := hdone _ _ _ H j (ready_mono hj hji)
      omega
  | succ f ih =>
    intro listed a w inv hfree hr hy H
    have hun := (mem_ready.1 hr).1
    refine ⟨fun h => (by rw [h] at hr; cases hr), fun j hj => ?_⟩
    have hjn : j < n := by
      rcases Nat.lt_or_ge j n with h | h
      · exact h
      · exact absurd hj (tail_waits hs hc hn inv _ i rfl hin hun j h)
    refine ⟨hjn, ?_⟩
    by_cases hji : j = i
    · subst hji; exact here hy H
    · have h1 := (H.2 j (ready_mono hj hji)).2
      obtain ⟨hjun, oj, hoj, hall⟩ := mem_ready.1 hj
      have hnot : ∀ e ∈ oj.after, Region.binds md e = true → e.on ≠ i := fun e he hb heq => by
        have h1 := hall e he hb
        rw [heq, getD_both hun] at h1
        cases h1
      have h2 := mOp_putD hoj (hfree j oj hoj hji hjun hnot) (fun cs b => hsel i oi cs b hi) (fun cs b => hsel j oj cs b hoj) hy h1
      have hfree' : ∀ k ok, ops[k]? = some ok → k ≠ i → (listed.setIfInBounds j true).getD k true = false →
          (∀ e ∈ ok.after, Region.binds md e = true → e.on ≠ i) → oi.apart ops ok = true := fun k ok hk hki hun hno => by
        refine hfree k ok hk hki ?_ hno
        by_cases hjk : j = k
        · subst hjk; exact hjun
        · rw [getD_set_ne true hjk] at hun; exact hun
      refine mOp_monoD (fun a' w' h3 => ih (listed.setIfInBounds j true) a' w' (inv.set hj hjn) hfree' (ready_mono hr (Ne.symm hji)) h3.1 ?_) h2
      rw [Array.setIfInBounds_comm _ _ hji]
      exact h3.2
end

def mixFromT (M : List Nat) (md : Region.Mode) (ops : Array Oper) (n : Nat) : List Nat → Array Bool → Bool
  | [], listed => Region.seqB md ops (ops.size - n) n listed
  | i :: rest, listed => (match ops[i]? with
    | none => false
    | some o => if calm o || M.contains i then (Region.ready md ops listed).contains i && Region.free md ops listed i else decide (Region.ready md ops listed = [i])) && mixFromT M md ops n rest (listed.setIfInBounds i true)
def mixBT (M : List Nat) (l : List Oper) (n : Nat) (ord : List Nat) : Bool :=
  Region.noSelect l.toArray && decide (n < l.toArray.size) && decide (ord.length = n) && ord.all (fun i => decide (i < n)) && Region.sinkB .any l.toArray n && Region.chainB .any l.toArray n && mixFromT M .any l.toArray n ord (Array.replicate l.toArray.size false)

section
variable {P : Program} {M : List Nat} {l : List Oper} {Q : Exit → Act → World → Prop} {md : Region.Mode}

/-- What the tail needs: it is alone, and its walk stands in every world that the head may leave. -/
def TailMT (P : Program) (md : Region.Mode) (l : List Oper) (n : Nat) (Q : Exit → Act → World → Prop) (listed : Array Bool) (a : Act) (w : World) : Prop :=
  Region.seqB md l.toArray (l.toArray.size - n) n listed = true ∧ ∀ w', (∃ p : Regrown, w' = grow (redrawn w p.d) p.os) → wpList P l.toArray Q (l.drop n) a w'

theorem wpAnyMT_mix {n : Nat} {L : Exit → Act → World → Prop} (hsel : Region.noSelect l.toArray = true) (hs : Region.sinkB md l.toArray n = true) (hc : Region.chainB md l.toArray n = true) (hn : n < l.toArray.size)
    (hL : ∀ a w, L .normal a w → wpList P l.toArray Q (l.drop n) a w) : ∀ (ord : List Nat) (listed : Array Bool) (a : Act) (w : World), (∀ i ∈ ord, i < n) → HeadInv md l.toArray n listed → mixFromT M md l.toArray n ord listed = true → wpMixD P M l L ord a w → wpAnyMT P md l.toArray n (TailMT P md l n Q) ord.length listed a w
  | [], listed, a, w, _, _, hB, h => ⟨hB, fun w' hw' => hL _ _ (h w' hw')⟩
  | i :: ord, listed, a, w, hlt, inv, hB, h => by
    simp only [mixFromT, Bool.and_eq_true] at hB
    obtain ⟨hB1, hB2⟩ := hB
    have hin : i < n := hlt i (by simp)
    have hlt' : ∀ j ∈ ord, j < n := fun j hj => hlt j (by simp [hj])
    have hdone : ∀ listed a w, TailMT P md l n Q listed a w → ∀ j ∈ Region.ready md l.toArray listed, n ≤ j := fun _ _ _ hL => seqB_ready hL.1
    have hll : l.toArray[i]? = l[i]? := by simp
    rw [hll] at hB1
    unfold wpMixD at h
    cases ho : l[i]? with
    | none => rw [ho] at hB1; simp at hB1
    | some o =>
      rw [ho] at hB1 h
      rw [ho] at hll
      simp only [] at hB1 h
      by_cases hc' : calm o = true
      · rw [if_pos (by rw [hc']; rfl)] at hB1
        rw [if_pos hc'] at h
        simp only [Bool.and_eq_true] at hB1
        obtain ⟨hr, hf⟩ := hB1
        have hr' : i ∈ Region.ready md l.toArray listed := by simpa using hr
        have : ∃ v, MYD P l.toArray w o v a ∧ wpMixD P M l L ord (a.put o.dst v) w := by
          unfold wpQuiet at h
          by_cases hw : Region.wanted o (yielded l.toArray a.tmps) = true
          · rw [if_pos hw] at h
            obtain ⟨v, h1, h2⟩ := h
            refine ⟨v, .inl ⟨hw, fun w' hw' => ?_⟩, h2⟩
            have h3 := h1 w' hw'
            unfold Oper.quietAt at h3
            cases hr : (execOp a.eval o).run P w' with
            | ok n w2 =>
              rw [hr] at h3
              cases n <;> simp only [Oper.quietUpon] at h3
              case value u => obtain ⟨rfl, rfl⟩ := h3; exact .inl rfl
              case skip => obtain ⟨rfl, rfl⟩ := h3; exact .inr (.inl ⟨rfl, rfl⟩)
              case enter f args => exact (calm_enter hc' hr).elim
            | halt x w2 => rw [hr] at h3; simp only [Oper.quietUpon] at h3
          · rw [if_neg hw] at h
            exact ⟨undef, .inr ⟨by simpa using hw, rfl⟩, h⟩
        obtain ⟨v, hy, hK⟩ := this
        exact wpAnyMT_first hll (Region.noSelect_spec hsel) hs hc hn hin hdone ord.length listed a w inv (Region.free_spec hll hf) hr' hy (wpAnyMT_mix hsel hs hc hn hL ord _ _ w hlt' (inv.set hr' hin) hB2 hK)
      · by_cases hM : M.contains i = true
        · rw [if_pos (by rw [hM, Bool.or_true])] at hB1
          rw [if_neg hc', if_pos hM] at h
          simp only [Bool.and_eq_true] at hB1
          obtain ⟨hr, hf⟩ := hB1
          have hr' : i ∈ Region.ready md l.toArray listed := by simpa using hr
          obtain ⟨v, f, args, hw, h1, h2, hK⟩ := h
          have hy : MYD P l.toArray w o v a := .inl ⟨hw, fun w' _ => .inr (.inr ⟨f, args, h1 w', h2 w'⟩)⟩
          exact wpAnyMT_first hll (Region.noSelect_spec hsel) hs hc hn hin hdone ord.length listed a w inv (Region.free_spec hll hf) hr' hy (wpAnyMT_mix hsel hs hc hn hL ord _ _ w hlt' (inv.set hr' hin) hB2 hK)
        rw [if_neg (by simp only [Bool.or_eq_true]; rintro (h9 | h9); exact hc' h9; exact hM h9)] at hB1
        rw [if_neg hc', if_neg hM] at h
        have hr : Region.ready md l.toArray listed = [i] := by simpa using hB1
        have hr' : i ∈ Region.ready md l.toArray listed := by rw [hr]; simp
        refine ⟨fun h0 => (by rw [hr] at h0; cases h0), fun j hj => ?_⟩
        rw [hr, List.mem_singleton] at hj
        subst hj
        refine ⟨hin, ?_⟩
        unfold mOpD
        rw [hll]
        refine .inr fun w' hw' => ?_
        have h1 := h w' hw'
        unfold wpList at h1
        unfold wpOp
        rw [hll]
        simp only [] at h1 ⊢
        split
        · rename_i hw
          rw [if_pos hw] at h1
          rcases h1 with h1 | ⟨_, _, _, h1, _⟩
          · refine .inl (Oper.wp_q (Q := fun e a' w'' => e = .normal ∧ (∃ p : Regrown, w'' = grow (redrawn w p.d) p.os) ∧ wpMixD P M l L ord a' w'') (fun e a w he hq => (he hq.1).elim) ?_)
            refine Oper.wp_mono ?_ h1
            exact fun a' w'' h2 => ⟨h2.2.1, wpAnyMT_mix hsel hs hc hn hL ord _ a' w'' hlt' (inv.set hr' hin) hB2 h2.2.2⟩
          · cases h1
        · rename_i hw
          rw [if_neg hw] at h1
          exact ⟨h1.2.1, wpAnyMT_mix hsel hs hc hn hL ord _ _ w' hlt' (inv.set hr' hin) hB2 h1.2.2⟩

/-- **One walk of the head's order that is laid, and of the tail behind it, serves every order.** -/
theorem wp_region_mixT {id : Nat} {a : Act} {w : World} (n : Nat) (ord : List Nat) (hm : P.follows .mixedOrders = true) (hB : mixBT M l n ord = true)
    (h : wpMixD P M l (fun _ a' w' => wpList P l.toArray Q (l.drop n) a' w') ord a w) : (Code.region id l.toArray true).wp P Q a w := by
  simp only [mixBT, Bool.and_eq_true, decide_eq_true_eq, List.all_eq_true] at hB
  obtain ⟨⟨⟨⟨⟨⟨hsel, hn⟩, hlen⟩, hlt⟩, hs⟩, hc⟩, hB⟩ := hB
  have hw : ∃ p : Regrown, ({ w with drawn := w.drawn + 1 } : World) = grow (redrawn w p.d) p.os := ⟨⟨w.drawn + 1, #[]⟩, by rw [grow_empty]; rfl⟩
  have hdl : (l.drop n).length = l.toArray.size - n := by simp
  have inv0 : HeadInv .any l.toArray n (Array.replicate l.toArray.size false) :=
    ⟨by simp, fun j oj _ hl => (by rw [getD_replicate_false] at hl; cases hl), fun t _ ht => getD_in (by simpa using ht) (getD_replicate_false _ _)⟩
  have H := wpAnyMT_mix (md := .any) (Q := Q) hsel hs hc hn (fun _ _ h => h) ord _ a w hlt inv0 hB h
  refine wp_region_any hm ?_
  have := wpAny_of_MT (Q := Q) (g := l.toArray.size - n) (fun listed a' w w' hw' hL => by
    have := wpAny_of_seq (md := .any) (Q' := Q) (l.drop n) n listed a' w' (fun j => by simp [List.getElem?_drop]) (by rw [hdl]; exact hL.1) (hL.2 w' hw')
    rwa [hdl] at this) _ _ _ _ _ hw H
  rw [hlen, show n + (l.toArray.size - n) = l.toArray.size by omega] at this
  exact this
end
end Go.Proofs.YtedegdojbhegdaaDoor
