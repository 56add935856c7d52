/- A region that draws its order, whose operations read and call, but for the last one, which waits for all others: walked once, in the order of the text; everywhere, and in a round of a range over a function. No program is named here, and nothing is assumed. -/
import Derived.Test.YthbhbechemnidaaDoorWords
import Derived.StillTail
import Derived.Lib.QuietBelow
import Derived.OrdersIn
import Derived.RangeFuncCalls
import Derived.OwnWalkIn
namespace Go.Proofs.YthbhbechemnidaaDoor
open Go.RowKit Go.Sort

section
variable {P : Program} {ops : Array Oper} {md : Region.Mode} {C : World → Prop} {m : Nat}

/-- Whatever order is picked from here on; T: an operation comes up. -/
def anyT (T : Nat → (Act → World → Prop) → Act → World → Prop) (N : Act → World → Prop) (md : Region.Mode) (ops : Array Oper) : Nat → Array Bool → Act → World → Prop
  | 0, listed, a, w => Region.ready md ops listed = [] ∧ N a w
  | fuel + 1, listed, a, w => (Region.ready md ops listed = [] → N a w) ∧ ∀ i ∈ Region.ready md ops listed, T i (anyT T N md ops fuel (listed.setIfInBounds i true)) a w

def unl (listed : Array Bool) (j : Nat) : Bool := !(listed.getD j true)
def cntU (m : Nat) (listed : Array Bool) : Nat := ((List.range m).filter (unl listed)).length
theorem unl_iff {listed : Array Bool} {j : Nat} : unl listed j = true ↔ listed.getD j true = false := by
  unfold unl
  cases listed.getD j true <;> simp
theorem filter_eq_of {p q : Nat → Bool} : ∀ (l : List Nat), (∀ j ∈ l, p j = q j) → l.filter p = l.filter q
  | [], _ => rfl
  | a :: l, h => by
    have e := h a (by simp)
    have e2 := filter_eq_of l (fun j hj => h j (by simp [hj]))
    simp only [List.filter_cons, e, e2]
theorem cntU_set (listed : Array Bool) (i : Nat) (hi : i < listed.size) (hu : listed.getD i true = false) : ∀ m, cntU m (listed.setIfInBounds i true) + (if i < m then 1 else 0) = cntU m listed
  | 0 => rfl
  | m + 1 => by
    have ih := cntU_set listed i hi hu m
    unfold cntU at *
    rw [List.range_succ, List.filter_append, List.filter_append, List.length_append, List.length_append]
    by_cases he : i = m
    · subst he
      have h1 : unl (listed.setIfInBounds i true) i = false := by unfold unl; simp [hi]
      have h2 : unl listed i = true := unl_iff.2 hu
      rw [if_neg (Nat.lt_irrefl _)] at ih
      have e1 : List.filter (unl (listed.setIfInBounds i true)) [i] = [] := by simp [h1]
      have e2 : List.filter (unl listed) [i] = [i] := by simp [h2]
      rw [if_pos (Nat.lt_succ_self _), e1, e2]
      simp only [List.length_nil, List.length_cons]
      omega
    · have h1 : unl (listed.setIfInBounds i true) m = unl listed m := by unfold unl; rw [getD_set_ne true he]
      have e1 : List.filter (unl (listed.setIfInBounds i true)) [m] = List.filter (unl listed) [m] := by simp [List.filter_cons, h1]
      rw [e1]
      by_cases hlt : i < m
      · rw [if_pos hlt] at ih; rw [if_pos (by omega)]; omega
      · rw [if_neg hlt] at ih; rw [if_neg (by omega)]; omega
theorem least_of {p : Nat → Prop} : ∀ n, p n → ∃ j, j ≤ n ∧ p j ∧ ∀ k, k < j → ¬ p k := by
  intro n
  induction n using Nat.strongRecOn with
  | _ n ih =>
    intro hn
    by_cases h : ∃ k, k < n ∧ p k
    · obtain ⟨k, hk, hp⟩ := h
      obtain ⟨j, h1, h2, h3⟩ := ih k hk hp
      exact ⟨j, by omega, h2, h3⟩
    · exact ⟨n, Nat.le_refl _, hn, fun k hk hp => h ⟨k, hk, hp⟩⟩
theorem cntU_pos {listed : Array Bool} (h : cntU m listed ≠ 0) : ∃ j, j < m ∧ listed.getD j true = false ∧ ∀ k, k < j → listed.getD k true = true := by
  have : ∃ j, j < m ∧ listed.getD j true = false := by
    unfold cntU at h
    cases hl : (List.range m).filter (unl listed) with
    | nil => rw [hl] at h; exact absurd rfl h
    | cons a r =>
      have ha : a ∈ (List.range m).filter (unl listed) := by rw [hl]; simp
      rw [List.mem_filter, List.mem_range] at ha
      exact ⟨a, ha.1, unl_iff.1 ha.2⟩
  obtain ⟨j, hj, hu⟩ := this
  obtain ⟨k, h1, h2, h3⟩ := least_of (p := fun j => listed.getD j true = false) j hu
  exact ⟨k, by omega, h2, fun i hi => by
    have := h3 i hi
    cases he : listed.getD i true with
    | true => rfl
    | false => exact absurd he this⟩
theorem cntU_zero {listed : Array Bool} (h : cntU m listed = 0) : ∀ j, j < m → listed.getD j true = true := by
  intro j hj
  unfold cntU at h
  have hl : (List.range m).filter (unl listed) = [] := List.eq_nil_of_length_eq_zero h
  cases he : listed.getD j true with
  | true => rfl
  | false =>
    have : j ∈ (List.range m).filter (unl listed) := by rw [List.mem_filter, List.mem_range]; exact ⟨hj, unl_iff.2 he⟩
    rw [hl] at this
    cases this
theorem getD_def {listed : Array Bool} {j : Nat} (hj : j < listed.size) (h : listed.getD j true = true) : listed.getD j false = true := by
  simp [hj] at h ⊢
  exact h

/-- Each operation waits for elder ones alone. -/
def lowB (ops : Array Oper) : Bool := (List.range ops.size).all fun i => match ops[i]? with | some o => o.after.all fun e => decide (e.on < i) | none => true
theorem lowB_spec (h : lowB ops = true) {i : Nat} {o : Oper} (ho : ops[i]? = some o) : ∀ e ∈ o.after, e.on < i := by
  intro e he
  unfold lowB at h
  rw [List.all_eq_true] at h
  have h1 := h i (List.mem_range.2 (Array.getElem?_eq_some_iff.1 ho).1)
  rw [ho] at h1
  simp only [] at h1
  rw [Array.all_eq_true'] at h1
  simpa using h1 e he

theorem anyT_tail {T : Nat → (Act → World → Prop) → Act → World → Prop} {N : Act → World → Prop} {Qh : Act → Prop}
    (hT : ∀ i (K : Act → Prop) (K' : Act → World → Prop) a w, C w → (∀ a w', C w' → K a → K' a w') → qOp P ops C i K a → T i K' a w)
    (hlow : lowB ops = true) (hsz : ops.size = m + 1) (hs : Region.sinkB md ops m = true) (hc : Region.chainB md ops m = true)
    (hm : ∀ a w, C w → Qh a → ∀ K' : Act → World → Prop, (∀ a w, N a w → K' a w) → T m K' a w) :
    ∀ (fuel : Nat) (listed : Array Bool) (a : Act) (w : World), C w → HeadInv md ops m listed → cntU m listed = fuel → wpAnyQ P md ops C Qh fuel (listed.setIfInBounds m true) a → anyT T N md ops (fuel + 1) listed a w := by
  intro fuel
  induction fuel with
  | zero =>
    intro listed a w hw inv hcnt h
    have hall := cntU_zero hcnt
    have hmr : m ∈ Region.ready md ops listed := by
      rw [mem_ready]
      have hlt : m < ops.size := by omega
      refine ⟨?_, ops[m], Array.getElem?_eq_getElem hlt, fun e he _ => ?_⟩
      · exact inv.tail m (Nat.le_refl _) hlt
      · have h1 := lowB_spec hlow (Array.getElem?_eq_getElem hlt) e he
        exact getD_def (by rw [inv.size]; omega) (hall _ h1)
    refine ⟨fun h0 => (by rw [h0] at hmr; cases hmr), fun i hi => ?_⟩
    have him : i = m := by
      obtain ⟨hu, o, ho, _⟩ := mem_ready.1 hi
      have hlt := (Array.getElem?_eq_some_iff.1 ho).1
      rcases Nat.lt_or_ge i m with h1 | h1
      · rw [hall i h1] at hu; cases hu
      · omega
    subst him
    exact hm a w hw h.2 _ (fun a' w' hn => ⟨h.1, hn⟩)
  | succ fuel ih =>
    intro listed a w hw inv hcnt h
    obtain ⟨j, hj, hju, hmin⟩ := cntU_pos (m := m) (listed := listed) (by omega)
    have hjr : j ∈ Region.ready md ops listed := by
      rw [mem_ready]
      have hlt : j < ops.size := by omega
      refine ⟨hju, ops[j], Array.getElem?_eq_getElem hlt, fun e he _ => ?_⟩
      have h1 := lowB_spec hlow (Array.getElem?_eq_getElem hlt) e he
      exact getD_def (by rw [inv.size]; omega) (hmin _ h1)
    refine ⟨fun h0 => (by rw [h0] at hjr; cases hjr), fun i hi => ?_⟩
    have hmn := tail_waits hs hc (by omega) inv _ j rfl hj hju m (Nat.le_refl _)
    have him : i ≠ m := fun e => hmn (e ▸ hi)
    obtain ⟨hu, o, ho, _⟩ := mem_ready.1 hi
    have hlt := (Array.getElem?_eq_some_iff.1 ho).1
    have hi2 : i < m := by omega
    refine hT i _ _ a w hw (fun a' w' hw' hq => ih (listed.setIfInBounds i true) a' w' hw' (inv.set hi hi2) ?_ ?_) (h.2 i (ready_mono hi him))
    · have := cntU_set listed i (by rw [inv.size]; exact hlt) hu m
      rw [if_pos hi2] at this
      omega
    · rw [Array.setIfInBounds_comm _ _ him]
      exact hq

theorem wpAny_of_anyT {Q : Exit → Act → World → Prop} : ∀ (fuel : Nat) (listed : Array Bool) (a : Act) (w : World), anyT (fun i K a w => wpOp P ops Q i K a w) (Q .normal) md ops fuel listed a w → wpAny P md ops Q fuel listed a w
  | 0, _, _, _, h => h
  | fuel + 1, _, _, _, h => ⟨h.1, fun i hi => wpOp_mono (fun a w => wpAny_of_anyT fuel _ a w) (h.2 i hi)⟩
theorem wpAnyIn_of_anyT {F : Fence} {n : Nat} {Q : Exit → Act → World → Prop} : ∀ (fuel : Nat) (listed : Array Bool) (a : Act) (w : World), anyT (fun i K a w => wpOpIn F n P ops Q i K a w) (Q .normal) md ops fuel listed a w → wpAnyIn F n P md ops Q fuel listed a w
  | 0, _, _, _, h => h
  | fuel + 1, _, _, _, h => ⟨h.1, fun i hi => wpOpIn_mono (fun a w => wpAnyIn_of_anyT fuel _ a w) (h.2 i hi)⟩

/-- The lexical walk of the operations ahead of the last one. -/
theorem wpAnyQ_lexT {Q : Act → Prop} (hs : Region.noSelect ops = true) : ∀ (l : List Oper) (k : Nat) (listed : Array Bool) (a : Act), (∀ j, j < l.length → l[j]? = ops[k + j]?) →
    Region.lexFrom md ops l.length k listed = true → wpQuiet P ops C Q l a → wpAnyQ P md ops C Q l.length listed a
  | [], _, _, _, _, hB, h => ⟨by simpa [Region.lexFrom] using hB, h⟩
  | o :: l, k, listed, a, hl, hB, h => by
    have h0 : ops[k]? = some o := by simpa using (hl 0 (by simp)).symm
    simp only [List.length_cons, Region.lexFrom, Bool.and_eq_true] at hB
    obtain ⟨⟨hr, hf⟩, hB'⟩ := hB
    have hst : qOp P ops C k (wpQuiet P ops C Q l) a := by unfold qOp; simp only [h0]; exact h
    obtain ⟨v, hy, hK⟩ := yieldsIn_of_qOp h0 hst
    exact wpAnyQ_first h0 (Region.noSelect_spec hs) l.length listed a (Region.free_spec h0 hf) (by simpa using hr) hy
      (wpAnyQ_lexT hs l (k + 1) _ _ (fun j hj => by have := hl (j + 1) (by simp; omega); simpa [Nat.add_assoc, Nat.add_comm 1 j] using this) hB' hK)

def tailQ (ops : Array Oper) (m : Nat) : Bool :=
  decide (ops.size = m + 1) && Region.noSelect ops && lowB ops && Region.sinkB .any ops m && Region.chainB .any ops m && Region.lexFrom .any ops m 0 ((Array.replicate ops.size false).setIfInBounds m true)
def noDefer (ops : Array Oper) : Bool := ops.all fun o => match o.op with | .defer _ => false | _ => true

theorem cntU_start (k : Nat) : ∀ m, m ≤ k → cntU m (Array.replicate k false) = m
  | 0, _ => rfl
  | m + 1, h => by
    have ih := cntU_start k m (by omega)
    unfold cntU at *
    have h1 : unl (Array.replicate k false) m = true := by unfold unl; simp [show m < k by omega]
    rw [List.range_succ, List.filter_append, List.length_append, ih, List.filter_cons, h1]
    rfl

theorem anyT_start {T : Nat → (Act → World → Prop) → Act → World → Prop} {N : Act → World → Prop} {Qh : Act → Prop} {w : World} {a : Act} (hB : tailQ ops m = true) (hC : C w)
    (hT : ∀ i (K : Act → Prop) (K' : Act → World → Prop) a w, C w → (∀ a w', C w' → K a → K' a w') → qOp P ops C i K a → T i K' a w)
    (hm : ∀ a w, C w → Qh a → ∀ K' : Act → World → Prop, (∀ a w, N a w → K' a w) → T m K' a w)
    (h : wpQuiet P ops C Qh (ops.toList.take m) a) : anyT T N .any ops ops.size (Array.replicate ops.size false) a w := by
  simp only [tailQ, Bool.and_eq_true, decide_eq_true_eq] at hB
  obtain ⟨⟨⟨⟨⟨hsz, hsel⟩, hlow⟩, hs⟩, hc⟩, hlex⟩ := hB
  have hl : (ops.toList.take m).length = m := by simp; omega
  have hq := wpAnyQ_lexT (P := P) (C := C) (md := .any) hsel (ops.toList.take m) 0 ((Array.replicate ops.size false).setIfInBounds m true) a (fun j hj => by
    rw [hl] at hj
    rw [List.getElem?_take_of_lt hj]; simp) (by rw [hl]; exact hlex) h
  rw [hl] at hq
  have inv0 : HeadInv .any ops m (Array.replicate ops.size false) :=
    ⟨by simp, fun j oj _ hl => (by rw [getD_replicate_false] at hl; cases hl), fun t _ ht => getD_in (by simpa using ht) (getD_replicate_false _ _)⟩
  have key := anyT_tail (md := .any) hT hlow hsz hs hc hm m (Array.replicate ops.size false) a w hC inv0 (cntU_start _ m (by omega)) hq
  rw [hsz]
  rw [hsz] at key
  exact key

theorem C_start (w : World) : ∃ p : Regrown, ({ w with drawn := w.drawn + 1 } : World) = grow (redrawn w p.d) p.os := ⟨⟨w.drawn + 1, #[]⟩, by rw [grow_empty]; rfl⟩

/-- Everywhere. -/
theorem wp_region_quiet_tail {id : Nat} {Q : Exit → Act → World → Prop} {a : Act} {w : World} {l : List Oper} (m : Nat) (hm : P.follows .mixedOrders = true) (hB : tailQ l.toArray m = true)
    (h : wpQuiet P l.toArray (fun w' => ∃ p : Regrown, w' = grow (redrawn w p.d) p.os) (fun a' => ∀ w', (∃ p : Regrown, w' = grow (redrawn w p.d) p.os) → wpList P l.toArray Q (l.drop m) a' w') (l.take m) a) : (Code.region id l.toArray true).wp P Q a w := by
  refine wp_region_any hm (wpAny_of_anyT _ _ _ _ (anyT_start (m := m) (C := fun w' => ∃ p : Regrown, w' = grow (redrawn w p.d) p.os) hB (C_start w) (fun i K K' a w hw hk hq => wpOp_of_qOp hw hk hq) ?_ h))
  intro a' w' hw hq K' hK'
  have h1 := hq w' hw
  simp only [tailQ, Bool.and_eq_true, decide_eq_true_eq] at hB
  have hsz : l.length = m + 1 := by simpa using hB.1.1.1.1.1
  have hd : l.drop m = [l[m]'(by omega)] := by
    rw [List.drop_eq_getElem_cons (by omega), List.drop_eq_nil_of_le (by omega)]
  rw [hd] at h1
  have h0 : l.toArray[m]? = some (l[m]'(by omega)) := by simp [show m < l.length by omega]
  show wpOp P l.toArray Q m K' a' w'
  refine wpOp_mono hK' ?_
  unfold wpOp
  rw [h0]
  exact h1

theorem wpOpIn_of_qOp_round {n lp : Nat} {i : Nat} {a : Act} {K : Act → Prop} {K' : Act → World → Prop} {Q' : Exit → Act → World → Prop} {w : World} (hnd : noDefer ops = true) (hC : C w) (h : ∀ a w', C w' → K a → K' a w')
    (hh : qOp P ops C i K a) : wpOpIn (Fence.wide.inRound lp) n P ops Q' i K' a w := by
  unfold qOp at hh
  unfold wpOpIn
  split
  · rename_i ho; simp only [ho] at hh; exact h _ _ hC hh
  · rename_i o ho
    simp only [ho] at hh
    have hdf : ∀ c, o.op ≠ .defer c := by
      intro c hc
      unfold noDefer at hnd
      rw [Array.all_eq_true'] at hnd
      have := hnd o (Array.mem_of_getElem? ho)
      rw [hc] at this
      cases this
    split
    · rename_i hw
      simp only [hw, if_true] at hh
      obtain ⟨v, h1, h2⟩ := hh
      have h3 := h1 w hC
      unfold Oper.quietAt at h3
      unfold Oper.wpIn
      refine ⟨fun _ _ => trivial, ?_⟩
      rw [Oper.semAt_eq _ _ _ hdf]
      generalize (execOp a.eval o).run P w = r at *
      cases r with
      | ok x w' =>
        cases x <;> simp only [Oper.quietUpon] at h3 <;> simp only [Oper.uponIn]
        case value u =>
          obtain ⟨e1, e2⟩ := h3
          rw [e1, e2]
          exact h _ _ hC h2
        case skip =>
          obtain ⟨e1, e2⟩ := h3
          rw [e1, ← e2]
          exact h _ _ hC h2
        case enter f args =>
          obtain ⟨e1, hc⟩ := h3
          rw [e1]
          exact ⟨fun hd => (by cases hd), CallsIn.inRound lp (callsIn_wide.2 (hc.mono fun e w'' ⟨he, hw''⟩ => by subst he; exact h _ _ hw'' h2))⟩
      | halt x w' => simp only [Oper.quietUpon] at h3
    · rename_i hw; simp only [hw] at hh; exact ⟨fun _ _ => trivial, h _ _ hC hh⟩

/-- In a round of a range over a function. -/
theorem wpIn_region_quiet_tail {n lp : Nat} {id : Nat} {Q : Exit → Act → World → Prop} {a : Act} {w : World} {l : List Oper} (m : Nat) (hm : P.follows .mixedOrders = true) (hB : tailQ l.toArray m = true) (hnd : noDefer l.toArray = true)
    (h : wpQuiet P l.toArray (fun w' => ∃ p : Regrown, w' = grow (redrawn w p.d) p.os) (fun a' => ∀ w', (∃ p : Regrown, w' = grow (redrawn w p.d) p.os) → wpListIn (Fence.wide.inRound lp) n P l.toArray Q (l.drop m) a' w') (l.take m) a) : (Code.region id l.toArray true).wpIn (Fence.wide.inRound lp) n P Q a w := by
  refine wpIn_region_any hm (wpAnyIn_of_anyT _ _ _ _ (anyT_start (m := m) (C := fun w' => ∃ p : Regrown, w' = grow (redrawn w p.d) p.os) hB (C_start w) (fun i K K' a w hw hk hq => wpOpIn_of_qOp_round hnd hw hk hq) ?_ h))
  intro a' w' hw hq K' hK'
  have h1 := hq w' hw
  simp only [tailQ, Bool.and_eq_true, decide_eq_true_eq] at hB
  have hsz : l.length = m + 1 := by simpa using hB.1.1.1.1.1
  have hd : l.drop m = [l[m]'(by omega)] := by
    rw [List.drop_eq_getElem_cons (by omega), List.drop_eq_nil_of_le (by omega)]
  rw [hd] at h1
  have h0 : l.toArray[m]? = some (l[m]'(by omega)) := by simp [show m < l.length by omega]
  show wpOpIn (Fence.wide.inRound lp) n P l.toArray Q m K' a' w'
  refine wpOpIn_mono hK' ?_
  unfold wpOpIn
  rw [h0]
  exact h1
/-- In a round, without such a last operation. -/
theorem wpIn_region_quiet_round {n lp : Nat} {id : Nat} {Q : Exit → Act → World → Prop} {a : Act} {w : World} {l : List Oper} (hm : P.follows .mixedOrders = true) (hB : Region.lexB .any l.toArray = true) (hnd : noDefer l.toArray = true)
    (h : wpQuiet P l.toArray (fun w' => ∃ p : Regrown, w' = grow (redrawn w p.d) p.os) (fun a' => ∀ w', (∃ p : Regrown, w' = grow (redrawn w p.d) p.os) → Q .normal a' w') l a) : (Code.region id l.toArray true).wpIn (Fence.wide.inRound lp) n P Q a w := by
  simp only [Region.lexB, Bool.and_eq_true] at hB
  have hq := wpAnyQ_lex (P := P) (C := fun w' => ∃ p : Regrown, w' = grow (redrawn w p.d) p.os) (md := .any) hB.1 l 0 (Array.replicate l.toArray.size false) a (by simp) (by simpa using hB.2) h
  have go : ∀ (fuel : Nat) (listed : Array Bool) (a : Act) (w1 : World), (∃ p : Regrown, w1 = grow (redrawn w p.d) p.os) → wpAnyQ P .any l.toArray (fun w' => ∃ p : Regrown, w' = grow (redrawn w p.d) p.os) (fun a' => ∀ w', (∃ p : Regrown, w' = grow (redrawn w p.d) p.os) → Q .normal a' w') fuel listed a →
      wpAnyIn (Fence.wide.inRound lp) n P .any l.toArray Q fuel listed a w1 := by
    intro fuel
    induction fuel with
    | zero => exact fun _ _ w1 hw h => ⟨h.1, h.2 w1 hw⟩
    | succ fuel ih => exact fun _ _ w1 hw h => ⟨fun h0 => h.1 h0 w1 hw, fun i hi => wpOpIn_of_qOp_round hnd hw (fun a' w' hw' => ih _ a' w' hw') (h.2 i hi)⟩
  exact wpIn_region_any hm (go _ _ _ _ (C_start w) (by simpa using hq))
end
end Go.Proofs.YthbhbechemnidaaDoor
