/- As XMixK, for operations that only make memory of their own (the class of all worlds in which what was there stands), and in which some 'alloc's wait for nothing and are waited for by the tail alone: they may come up anywhere; the walk lays them at the head's end. No program is named here, and nothing is assumed. -/
import Derived.Test.YtfkooohnaodjmaaMixK
namespace Go.Proofs.Ytfkooohnaodjmaa
open Go.RowKit Go.Sort

def allS : Nat → Prop := fun _ => True

section
variable {P : Program} {ops : Array Oper} {md : Region.Mode}

def mOpC (P : Program) (ops : Array Oper) (i : Nat) (K : Act → World → Prop) (a : Act) (w : World) : Prop :=
  match ops[i]? with
  | none => False
  | some o => (∃ v, MYDk allS P ops w o v a ∧ K (a.put o.dst v) w) ∨ (∀ w', (∃ p : Kept allS w, w' = p.v) → wpOp P ops noQ i (fun a' w'' => (∃ p : Kept allS w', w'' = p.v) ∧ K a' w'') a w')

theorem mOp_monoC {i : Nat} {K K' : Act → World → Prop} {a : Act} {w : World} (h : ∀ a w, K a w → K' a w) (hh : mOpC P ops i K a w) : mOpC P ops i K' a w := by
  unfold mOpC at *
  split
  · rename_i ho; simp only [ho] at hh
  · rename_i o ho
    simp only [ho] at hh
    rcases hh with ⟨v, h1, h2⟩ | h1
    · exact .inl ⟨v, h1, h _ _ h2⟩
    · exact .inr fun w' hw' => wpOp_mono (fun a w ⟨h2, h3⟩ => ⟨h2, h _ _ h3⟩) (h1 w' hw')

theorem mOp_putC {j : Nat} {oi oj : Oper} {v : Value} {w : World} (hj : ops[j]? = some oj) (hap : oi.apart ops oj = true)
    (hsi : ∀ cs b, oi.op ≠ .select cs b) (hsj : ∀ cs b, oj.op ≠ .select cs b) {K : Act → World → Prop} {a : Act}
    (hy : MYDk allS P ops w oi v a) (h : mOpC P ops j K (a.put oi.dst v) w) : mOpC P ops j (fun a' w' => MYDk allS P ops w' oi v a' ∧ K (a'.put oi.dst v) w') a w := by
  obtain ⟨h1, h2, h3⟩ := Oper.apart_spec hap
  have keep : ∀ (a : Act) u, MYDk allS P ops w oi v a → MYDk allS P ops w oi v (a.put oj.dst u) := fun a u hy =>
    hy.of_same (execOp_put oi hsi a oj.dst u h3) (wanted_put oi a oj.dst u h3)
  unfold mOpC at *
  simp only [hj] at h ⊢
  rcases h with ⟨u, hu, hn⟩ | h
  · refine .inl ⟨u, hu.of_same (execOp_put oj hsj a oi.dst v h1).symm (wanted_put oj a oi.dst v h1).symm, keep a u hy, ?_⟩
    rw [← Act.put_comm a v u h2]; exact hn
  · refine .inr fun w' hw' => ?_
    refine wpOp_mono ?_ (wpOp_putJk (J := MYDk allS P ops w oi v) hj hap hsj keep (fun a d hy => hy.of_same rfl rfl) hy (h w' hw'))
    exact fun a' w'' ⟨h4, h5, h6⟩ => ⟨h5, h4.later (kp_trans hw' h5), h6⟩

theorem mOp_upC {i : Nat} {K : Act → World → Prop} {a : Act} {w w' : World} (hK : ∀ a w w', (∃ p : Kept allS w, w' = p.v) → K a w → K a w') (hw : ∃ p : Kept allS w, w' = p.v) (h : mOpC P ops i K a w) :
    ∃ o, ops[i]? = some o ∧ wpOp P ops noQ i (fun a' w'' => (∃ p : Kept allS w', w'' = p.v) ∧ K a' w'') a w' := by
  unfold mOpC at h
  split at h
  · exact h.elim
  · rename_i o ho
    refine ⟨o, ho, ?_⟩
    rcases h with ⟨v, h1, h2⟩ | h1
    · exact h1.wpOp ho hw ⟨kp_refl _, hK _ _ _ hw h2⟩
    · exact h1 w' hw

def wpAnyC (P : Program) (md : Region.Mode) (ops : Array Oper) (n : Nat) (L : Array Bool → Act → World → Prop) : Nat → Array Bool → Act → World → Prop
  | 0, listed, a, w => ∀ w', (∃ p : Kept allS w, w' = p.v) → L listed a w'
  | f + 1, listed, a, w => Region.ready md ops listed ≠ [] ∧ ∀ i ∈ Region.ready md ops listed, i < n ∧ mOpC P ops i (wpAnyC P md ops n L f (listed.setIfInBounds i true)) a w

theorem wpAnyC_up {n : Nat} {L : Array Bool → Act → World → Prop} : ∀ (f : Nat) (listed : Array Bool) (a : Act) (w w' : World), (∃ p : Kept allS w, w' = p.v) → wpAnyC P md ops n L f listed a w → wpAnyC P md ops n L f listed a w'
  | 0, _, _, _, _, hw, h => fun w'' hw' => h w'' (kp_trans hw hw')
  | f + 1, listed, a, w, w', hw, h => by
    refine ⟨h.1, fun i hi => ⟨(h.2 i hi).1, ?_⟩⟩
    have h1 := (h.2 i hi).2
    unfold mOpC at *
    split
    · rename_i ho; simp only [ho] at h1
    · rename_i o ho
      simp only [ho] at h1
      rcases h1 with ⟨v, h2, h3⟩ | h2
      · exact .inl ⟨v, h2.later hw, wpAnyC_up f _ _ _ _ hw h3⟩
      · exact .inr fun w'' hw' => h2 w'' (kp_trans hw hw')

/-- A put that operation j does not look at stays on top of what j does. -/
theorem wpOp_over {j : Nat} {oi oj : Oper} {v : Value} (hj : ops[j]? = some oj) (hap : oi.apart ops oj = true) (hsj : ∀ cs b, oj.op ≠ .select cs b) {K : Act → World → Prop} {a : Act} {w : World}
    (h : wpOp P ops noQ j K a w) : wpOp P ops noQ j (fun a' w' => ∃ a'', a' = a''.put oi.dst v ∧ K a'' w') (a.put oi.dst v) w := by
  obtain ⟨h1, h2, -⟩ := Oper.apart_spec hap
  unfold wpOp at *
  simp only [hj] at h ⊢
  rw [wanted_put oj a oi.dst v h1]
  split
  · rename_i hw
    simp only [hw, if_true] at h
    rcases h with h | ⟨_, _, _, h⟩
    case inr => exact h.elim
    refine .inl ?_
    unfold Oper.wp at *
    rw [execOp_put oj hsj a oi.dst v h1]
    generalize (execOp a.eval oj).run P w = r at *
    cases r with
    | ok n w' =>
      cases n <;> simp only [Oper.upon] at h ⊢
      case value u => exact ⟨_, Act.put_comm a v u h2, h⟩
      case skip => exact ⟨_, Act.put_comm a v undef h2, h⟩
      case defer d =>
        refine ⟨_, ?_, h⟩
        rw [← Act.put_comm _ v undef h2]
        cases oi.dst <;> cases oj.dst <;> rfl
      case enter f args =>
        refine Calls.mono h fun e w'' he => ?_
        cases e with
        | returned u => exact ⟨_, Act.put_comm a v u h2, he⟩
        | panicked c => exact he
        | outgrown => exact he
      case row row args => exact Rows.mono h fun u w'' he => ⟨_, Act.put_comm a v u h2, he⟩
    | halt x w' =>
      cases x <;> simp only [Oper.upon] at h ⊢
      case panic u => exact h
  · rename_i hw
    simp only [hw] at h
    exact ⟨_, Act.put_comm a v undef h2, h⟩

def dstA (ops : Array Oper) (x : Nat) : Option Tmp := match ops[x]? with | some o => o.dst | none => none
def puts (ops : Array Oper) (dn : Nat → Option Nat) : List Nat → Act → Act
  | [], a => a
  | x :: X, a => match dn x with | none => puts ops dn X a | some g => (puts ops dn X a).put (dstA ops x) (.pointer (some ⟨g, 0, none⟩))
def marks : List Nat → Array Bool → Array Bool
  | [], l => l
  | x :: X, l => (marks X l).setIfInBounds x true
def cnt : List Nat → Array Bool → Nat
  | [], _ => 0
  | x :: X, l => (if l.getD x true then 0 else 1) + cnt X l
def freeB (md : Region.Mode) (ops : Array Oper) (n : Nat) (X : List Nat) : Bool :=
  decide X.Nodup && X.all (fun x => decide (x < n) && (match ops[x]? with
    | none => false
    | some ox => ox.after.all (fun e => !Region.binds md e) && (List.range n).all (fun j => decide (j = x) || match ops[j]? with
      | some oj => ox.apart ops oj && oj.after.all (fun e => !(Region.binds md e && e.on == x))
      | none => true)))
def FreeA (P : Program) (ops : Array Oper) (X : List Nat) (Z : Nat → Array Value) (T : Nat → TypeId) : Prop :=
  ∀ x ∈ X, ∃ o, ops[x]? = some o ∧ o.guard = none ∧ ∀ ρ w, (execOp ρ o).run P w = .ok (.value (.pointer (some ⟨w.heap.size, 0, none⟩))) (w.alloc (.cells (Z x) (T x)))

theorem set_comm' (l : Array Bool) (i j : Nat) : (l.setIfInBounds i true).setIfInBounds j true = (l.setIfInBounds j true).setIfInBounds i true := by
  by_cases h : i = j
  · subst h; rfl
  · exact Array.setIfInBounds_comm _ _ h
theorem marks_set (j : Nat) : ∀ (X : List Nat) (l : Array Bool), marks X (l.setIfInBounds j true) = (marks X l).setIfInBounds j true
  | [], _ => rfl
  | x :: X, l => by
    show (marks X (l.setIfInBounds j true)).setIfInBounds x true = ((marks X l).setIfInBounds x true).setIfInBounds j true
    rw [marks_set j X l, set_comm']
theorem set_again (l : Array Bool) (x : Nat) : (l.setIfInBounds x true).setIfInBounds x true = l.setIfInBounds x true := by simp
theorem marks_mem {x : Nat} : ∀ {X : List Nat}, x ∈ X → ∀ (l : Array Bool), marks X (l.setIfInBounds x true) = marks X l
  | y :: X, h, l => by
    rw [marks_set]
    rcases List.mem_cons.1 h with rfl | h
    · exact set_again _ _
    · show ((marks X l).setIfInBounds y true).setIfInBounds x true = (marks X l).setIfInBounds y true
      rw [set_comm', ← marks_set, marks_mem h]
theorem marks_id : ∀ (X : List Nat) (l : Array Bool), (∀ x ∈ X, l.getD x true = true) → marks X l = l
  | [], _, _ => rfl
  | x :: X, l, h => by
    show (marks X l).setIfInBounds x true = l
    rw [marks_id X l fun y hy => h y (List.mem_cons_of_mem _ hy)]
    have h0 := h x (List.mem_cons_self ..)
    apply Array.ext_getElem?
    intro i
    by_cases hi : x = i
    · subst hi
      rcases Nat.lt_or_ge x l.size with h' | h'
      · simp [h'] at h0 ⊢; exact h0
      · simp [h']
    · rw [Array.getElem?_setIfInBounds_ne hi]
theorem ready_marks {j : Nat} : ∀ {X : List Nat} {l : Array Bool}, j ∉ X → j ∈ Region.ready md ops l → j ∈ Region.ready md ops (marks X l)
  | [], _, _, h => h
  | _ :: _, _, hn, h => ready_mono (ready_marks (fun h => hn (List.mem_cons_of_mem _ h)) h) (fun e => hn (e ▸ List.mem_cons_self ..))
theorem cnt_not {x : Nat} : ∀ {X : List Nat}, x ∉ X → ∀ (l : Array Bool), cnt X (l.setIfInBounds x true) = cnt X l
  | [], _, _ => rfl
  | y :: X, h, l => by
    show (if (l.setIfInBounds x true).getD y true then 0 else 1) + cnt X (l.setIfInBounds x true) = (if l.getD y true then 0 else 1) + cnt X l
    rw [getD_set_ne (i := x) (j := y) true (fun e => h (by rw [e]; exact List.mem_cons_self ..)), cnt_not (fun h' => h (List.mem_cons_of_mem _ h'))]
theorem getD_set_self {l : Array Bool} {x : Nat} : (l.setIfInBounds x true).getD x true = true := by
  rcases Nat.lt_or_ge x l.size with h' | h'
  · simp [h']
  · simp [h']
theorem cnt_set {x : Nat} : ∀ {X : List Nat}, x ∈ X → X.Nodup → ∀ (l : Array Bool), l.getD x true = false → cnt X l = cnt X (l.setIfInBounds x true) + 1
  | y :: X, h, hd, l, hl => by
    show (if l.getD y true then 0 else 1) + cnt X l = (if (l.setIfInBounds x true).getD y true then 0 else 1) + cnt X (l.setIfInBounds x true) + 1
    obtain ⟨hd1, hd2⟩ := List.nodup_cons.1 hd
    by_cases hxy : x = y
    · subst hxy
      rw [cnt_not hd1, hl, getD_set_self]
      simp; omega
    · have h' : x ∈ X := by rcases List.mem_cons.1 h with h | h; exact absurd h hxy; exact h
      rw [getD_set_ne true hxy, cnt_set h' hd2 l hl]
      omega
theorem cnt_zero : ∀ {X : List Nat} {l : Array Bool}, cnt X l = 0 → ∀ x ∈ X, l.getD x true = true
  | y :: X, l, h, x, hx => by
    have h1 : (if l.getD y true then 0 else 1) + cnt X l = 0 := h
    rcases List.mem_cons.1 hx with rfl | hx
    · cases h2 : l.getD x true
      · rw [h2] at h1; simp at h1
      · rfl
    · exact cnt_zero (by omega) x hx
theorem cnt_all : ∀ {X : List Nat} {l : Array Bool}, (∀ x ∈ X, l.getD x true = true) → cnt X l = 0
  | [], _, _ => rfl
  | y :: X, l, h => by
    show (if l.getD y true then 0 else 1) + cnt X l = 0
    rw [h y (List.mem_cons_self ..), cnt_all fun x hx => h x (List.mem_cons_of_mem _ hx)]
    rfl
theorem puts_new {x g : Nat} {dn : Nat → Option Nat} : ∀ {X : List Nat} (a : Act), x ∉ X → puts ops (fun y => if y = x then some g else dn y) X a = puts ops dn X a
  | [], _, _ => rfl
  | y :: X, a, h => by
    have hy : y ≠ x := fun e => h (e ▸ List.mem_cons_self ..)
    unfold puts
    rw [puts_new a (fun h' => h (List.mem_cons_of_mem _ h'))]
    simp only [hy, if_false]
theorem puts_add {x g : Nat} {dn : Nat → Option Nat} (hx : dn x = none) : ∀ {X : List Nat} (a : Act), x ∈ X → X.Nodup → (∀ y ∈ X, y ≠ x → ∀ d, dstA ops y = some d → dstA ops x ≠ some d) →
    puts ops (fun y => if y = x then some g else dn y) X a = (puts ops dn X a).put (dstA ops x) (.pointer (some ⟨g, 0, none⟩))
  | y :: X, a, h, hd, hap => by
    obtain ⟨hd1, hd2⟩ := List.nodup_cons.1 hd
    by_cases hy : y = x
    · subst hy
      unfold puts
      rw [puts_new a hd1]
      simp only [if_true, hx]
    · have h' : x ∈ X := by rcases List.mem_cons.1 h with h | h; exact absurd h.symm hy; exact h
      unfold puts
      rw [puts_add hx a h' hd2 fun z hz => hap z (List.mem_cons_of_mem _ hz)]
      simp only [hy, if_false]
      cases dn y with
      | none => rfl
      | some h0 => exact (Act.put_comm _ _ _ (hap y (List.mem_cons_self ..) hy)).symm
theorem wpOp_puts {j : Nat} {oj : Oper} {dn : Nat → Option Nat} (hj : ops[j]? = some oj) (hsj : ∀ cs b, oj.op ≠ .select cs b) {K : Act → World → Prop} {a : Act} {w : World} (h : wpOp P ops noQ j K a w) :
    ∀ {X : List Nat}, (∀ x ∈ X, ∃ o, ops[x]? = some o ∧ o.apart ops oj = true) → wpOp P ops noQ j (fun a' w' => ∃ a'', a' = puts ops dn X a'' ∧ K a'' w') (puts ops dn X a) w
  | [], _ => wpOp_mono (fun a' w' hk => ⟨a', rfl, hk⟩) h
  | x :: X, hap => by
    have h1 := wpOp_puts (dn := dn) hj hsj h (X := X) fun y hy => hap y (List.mem_cons_of_mem _ hy)
    obtain ⟨o, ho, hox⟩ := hap x (List.mem_cons_self ..)
    unfold puts
    cases hdn : dn x with
    | none => exact wpOp_mono (fun a' w' ⟨a'', h2, h3⟩ => ⟨a'', h2, h3⟩) h1
    | some g =>
      have hd : dstA ops x = o.dst := by unfold dstA; rw [ho]
      simp only [hd]
      exact wpOp_mono (fun a' w' ⟨a1, h2, a'', h3, h4⟩ => ⟨a'', by rw [h2, h3], h4⟩) (wpOp_over hj hox hsj h1)

theorem marks_not {i : Nat} (d : Bool) : ∀ {X : List Nat} (l : Array Bool), i ∉ X → (marks X l).getD i d = l.getD i d
  | [], _, _ => rfl
  | x :: X, l, h => by
    show ((marks X l).setIfInBounds x true).getD i d = l.getD i d
    rw [getD_set_ne (i := x) (j := i) d (fun e => h (by rw [e]; exact List.mem_cons_self ..))]
    exact marks_not d l fun h' => h (List.mem_cons_of_mem _ h')
theorem marks_in {i : Nat} : ∀ {X : List Nat} (l : Array Bool), i ∈ X → (marks X l).getD i true = true
  | x :: X, l, h => by
    show ((marks X l).setIfInBounds x true).getD i true = true
    by_cases hx : x = i
    · subst hx; exact getD_set_self
    · rw [getD_set_ne (i := x) (j := i) true hx]
      exact marks_in l (by rcases List.mem_cons.1 h with h | h; exact absurd h.symm hx; exact h)

theorem freeB_spec {n : Nat} {X : List Nat} (h : freeB md ops n X = true) : X.Nodup ∧ ∀ x ∈ X, x < n ∧ ∀ ox, ops[x]? = some ox → (∀ e ∈ ox.after, Region.binds md e = true → False) ∧
    ∀ j oj, j < n → ops[j]? = some oj → j ≠ x → ox.apart ops oj = true ∧ ∀ e ∈ oj.after, Region.binds md e = true → e.on ≠ x := by
  simp only [freeB, Bool.and_eq_true, decide_eq_true_eq, List.all_eq_true] at h
  obtain ⟨h1, h2⟩ := h
  refine ⟨h1, fun x hx => ?_⟩
  obtain ⟨h3, h4⟩ := h2 x hx
  refine ⟨h3, fun ox hox => ?_⟩
  simp only [hox, Bool.and_eq_true, Array.all_eq_true_iff_forall_mem, List.all_eq_true, List.mem_range] at h4
  obtain ⟨h5, h6⟩ := h4
  refine ⟨fun e he hb => ?_, fun j oj hj hoj hne => ?_⟩
  · have := h5 e he
    rw [hb] at this
    cases this
  · have := h6 j hj
    simp only [hoj, Bool.or_eq_true, decide_eq_true_eq, hne, false_or, Bool.and_eq_true, Array.all_eq_true_iff_forall_mem] at this
    refine ⟨this.1, fun e he hb heq => ?_⟩
    have h7 := this.2 e he
    rw [hb, heq] at h7
    simp at h7

/-- What is known of the memory that the allocs made. -/
structure Made (X : List Nat) (Z : Nat → Array Value) (T : Nat → TypeId) (b : Nat) (dn : Nat → Option Nat) (w : World) : Prop where
  blk : ∀ x ∈ X, ∀ g, dn x = some g → Blk w g (T x) (Z x)
  base : ∀ x ∈ X, ∀ g, dn x = some g → b ≤ g
  ne : ∀ x ∈ X, ∀ y ∈ X, x ≠ y → ∀ g h, dn x = some g → dn y = some h → g ≠ h
theorem Made.up {X : List Nat} {Z : Nat → Array Value} {T : Nat → TypeId} {b : Nat} {dn : Nat → Option Nat} {w w' : World} (h : Made X Z T b dn w) (hw : ∃ p : Kept allS w, w' = p.v) : Made X Z T b dn w' := by
  obtain ⟨p, rfl⟩ := hw
  exact ⟨fun x hx g hg => p.h.blk trivial (h.blk x hx g hg), h.base, h.ne⟩

theorem wpAny_free {Q : Exit → Act → World → Prop} {n g b : Nat} {X : List Nat} {Z : Nat → Array Value} {T : Nat → TypeId} {L : Array Bool → Act → World → Prop}
    (hsel : ∀ (j : Nat) (o : Oper) cs b, ops[j]? = some o → o.op ≠ .select cs b)
    (hX : freeB md ops n X = true) (hF : FreeA P ops X Z T) (hs : Region.sinkB md ops n = true) (hc : Region.chainB md ops n = true) (hn : n < ops.size)
    (hdone : ∀ listed a w, L listed a w → ∀ j ∈ Region.ready md ops listed, n ≤ j)
    (hL : ∀ listed a w dn, L listed a w → Made X Z T b dn w → (∀ x ∈ X, (dn x).isSome = true) → wpAny P md ops Q g listed (puts ops dn X a) w) :
    ∀ (m f : Nat) (A : Array Bool) (dn : Nat → Option Nat) (a : Act) (w : World), f + cnt X A = m → HeadInv md ops n A → (∀ x ∈ X, (dn x).isSome = A.getD x true) → Made X Z T b dn w → b ≤ w.heap.size →
      wpAnyC P md ops n L f (marks X A) a w → wpAny P md ops Q (m + g) A (puts ops dn X a) w := by
  obtain ⟨hnd, hXs⟩ := freeB_spec hX
  have rdy : ∀ (A : Array Bool), HeadInv md ops n A → ∀ x ∈ X, A.getD x true = false → x ∈ Region.ready md ops A := fun A inv x hx hl => by
    obtain ⟨o, ho, -, -⟩ := hF x hx
    exact mem_ready.2 ⟨hl, o, ho, fun e he hb => (((hXs x hx).2 o ho).1 e he hb).elim⟩
  have back : ∀ (A : Array Bool) i, i < n → i ∈ Region.ready md ops (marks X A) → i ∉ X ∧ i ∈ Region.ready md ops A := fun A i hi hr => by
    obtain ⟨h1, oi, hoi, h2⟩ := mem_ready.1 hr
    have hiX : i ∉ X := fun hx => by rw [marks_in A hx] at h1; cases h1
    refine ⟨hiX, mem_ready.2 ⟨by rw [← marks_not true A hiX]; exact h1, oi, hoi, fun e he hb => ?_⟩⟩
    have h3 := h2 e he hb
    have heX : e.on ∉ X := fun hx => by
      obtain ⟨ox, hox, -, -⟩ := hF e.on hx
      exact (((hXs e.on hx).2 ox hox).2 i oi hi hoi (fun hie => hiX (by rw [hie]; exact hx))).2 e he hb rfl
    rw [marks_not false A heX] at h3
    exact h3
  intro m
  induction m with
  | zero =>
    intro f A dn a w hm inv hdn hM hb h
    obtain rfl : f = 0 := by omega
    have hall := cnt_zero (X := X) (l := A) (by omega)
    have h0 := h w (kp_refl w)
    rw [marks_id X A hall] at h0
    rw [Nat.zero_add]
    exact hL A a w dn h0 hM fun x hx => by rw [hdn x hx, hall x hx]
  | succ m ih =>
    intro f A dn a w hm inv hdn hM hb h
    rw [show m + 1 + g = (m + g) + 1 by omega]
    -- some head operation is not listed
    have hsome : ∃ i, i < n ∧ i ∈ Region.ready md ops A := by
      cases f with
      | zero =>
        by_cases hex : ∃ x, x ∈ X ∧ A.getD x true = false
        · obtain ⟨x, hx, hl⟩ := hex
          exact ⟨x, (hXs x hx).1, rdy A inv x hx hl⟩
        · exfalso
          have : cnt X A = 0 := cnt_all fun x hx => by
            cases h2 : A.getD x true
            · exact absurd ⟨x, hx, h2⟩ hex
            · rfl
          omega
      | succ f =>
        obtain ⟨i, hi⟩ := List.exists_mem_of_ne_nil _ h.1
        exact ⟨i, (h.2 i hi).1, (back A i (h.2 i hi).1 hi).2⟩
    obtain ⟨i0, hi0, hr0⟩ := hsome
    refine ⟨fun h0 => (by rw [h0] at hr0; cases hr0), fun j hj => ?_⟩
    have hjn : j < n := by
      rcases Nat.lt_or_ge j n with h' | h'
      · exact h'
      · exact absurd hj (tail_waits hs hc hn inv _ i0 rfl hi0 (mem_ready.1 hr0).1 j h')
    obtain ⟨hjl, oj, hoj, hja⟩ := mem_ready.1 hj
    by_cases hjX : j ∈ X
    · obtain ⟨o, ho, hg, hrun⟩ := hF j hjX
      obtain rfl : o = oj := Option.some.inj (ho.symm.trans hoj)
      have hnone : dn j = none := by
        have h1 := hdn j hjX
        rw [hjl] at h1
        cases h2 : dn j
        · rfl
        · rw [h2] at h1; cases h1
      have hd : dstA ops j = o.dst := by unfold dstA; rw [ho]
      have hw : Region.wanted o (yielded ops (puts ops dn X a).tmps) = true := by unfold Region.wanted; rw [hg]
      unfold wpOp
      simp only [ho, hw, if_true, Oper.wp, hrun, Oper.upon]
      refine .inl ?_
      have h1 := ih f (A.setIfInBounds j true) (fun y => if y = j then some w.heap.size else dn y) a (w.alloc (.cells (Z j) (T j))) (by have := cnt_set hjX hnd A hjl; omega) (inv.set hj hjn) (fun x hx => ?_) ⟨?_, ?_, ?_⟩ (by simp; omega) (by
        rw [marks_mem hjX]
        exact wpAnyC_up f _ a w _ (kp_of (Stand.alloc (Stand.refl _ _) _)) h)
      · rw [puts_add hnone a hjX hnd fun y hy hne d hdy => by
          obtain ⟨oy, hoy, -, -⟩ := hF y hy
          have hap := (((hXs y hy).2 oy hoy).2 j o hjn ho (Ne.symm hne)).1
          unfold dstA at hdy ⊢
          rw [hoy] at hdy
          rw [ho]
          exact (Oper.apart_spec hap).2.1 d hdy, hd] at h1
        exact h1
      · by_cases hxj : x = j
        · subst hxj; simp only [if_true]; rw [getD_set_self]; rfl
        · simp only [hxj, if_false]; rw [getD_set_ne true (Ne.symm hxj)]; exact hdn x hx
      · intro x hx g' hg'
        by_cases hxj : x = j
        · subst hxj; simp only [if_true, Option.some.injEq] at hg'; subst hg'; exact Blk.new w _ _
        · simp only [hxj, if_false] at hg'; exact (hM.blk x hx g' hg').alloc _
      · intro x hx g' hg'
        by_cases hxj : x = j
        · simp only [hxj, if_true, Option.some.injEq] at hg'; omega
        · simp only [hxj, if_false] at hg'; exact hM.base x hx g' hg'
      · intro x hx y hy hxy g' h' hg' hh'
        by_cases hxj : x = j
        · have hyj : y ≠ j := fun e => hxy (hxj.trans e.symm)
          simp only [hxj, if_true, Option.some.injEq] at hg'
          simp only [hyj, if_false] at hh'
          have := (hM.blk y hy h' hh').lt
          omega
        · simp only [hxj, if_false] at hg'
          by_cases hyj : y = j
          · simp only [hyj, if_true, Option.some.injEq] at hh'
            have := (hM.blk x hx g' hg').lt
            omega
          · simp only [hyj, if_false] at hh'
            exact hM.ne x hx y hy hxy g' h' hg' hh'
    · cases f with
      | zero =>
        have := hdone _ _ _ (h w (kp_refl w)) j (ready_marks hjX hj)
        omega
      | succ f =>
        obtain ⟨_, _, h2⟩ := mOp_upC (fun a w w' hw hk => wpAnyC_up f _ a w w' hw hk) (kp_refl w) (h.2 j (ready_marks hjX hj)).2
        have h3 := wpOp_puts (dn := dn) hoj (hsel j oj · · hoj) h2 (X := X) fun x hx => by
          obtain ⟨ox, hox, -, -⟩ := hF x hx
          exact ⟨ox, hox, (((hXs x hx).2 ox hox).2 j oj hjn hoj (fun e => hjX (by rw [e]; exact hx))).1⟩
        refine wpOp_mono ?_ (wpOp_q (fun _ _ _ _ h => h.elim) h3)
        rintro a' w' ⟨a'', rfl, hw, hk⟩
        refine ih f (A.setIfInBounds j true) dn a'' w' (by rw [cnt_not hjX]; omega) (inv.set hj hjn) (fun x hx => ?_) (hM.up hw) ?_ (by rw [marks_set]; exact hk)
        · rw [getD_set_ne true (fun e => hjX (by rw [e]; exact hx))]; exact hdn x hx
        · obtain ⟨p, rfl⟩ := hw
          exact Nat.le_trans hb p.h.size
end

section
variable {P : Program} {ops : Array Oper} {md : Region.Mode}
theorem wpAnyC_first {n i : Nat} {oi : Oper} {v : Value} {L : Array Bool → Act → World → Prop} (hi : ops[i]? = some oi) (hsel : ∀ (j : Nat) (o : Oper) cs b, ops[j]? = some o → o.op ≠ .select cs b)
    (hs : Region.sinkB md ops n = true) (hc : Region.chainB md ops n = true) (hn : n < ops.size) (hin : i < n)
    (hdone : ∀ listed a w, L listed a w → ∀ j ∈ Region.ready md ops listed, n ≤ j) :
    ∀ (f : Nat) (listed : Array Bool) (a : Act) (w : World), HeadInv md ops n listed →
      (∀ j oj, ops[j]? = some oj → j ≠ i → listed.getD j true = false → (∀ e ∈ oj.after, Region.binds md e = true → e.on ≠ i) → oi.apart ops oj = true) →
      i ∈ Region.ready md ops listed → MYDk allS P ops w oi v a →
      wpAnyC P md ops n L f (listed.setIfInBounds i true) (a.put oi.dst v) w → wpAnyC P md ops n L (f + 1) listed a w := by
  have here : ∀ {K : Act → World → Prop} {a : Act} {w : World}, MYDk allS P ops w oi v a → K (a.put oi.dst v) w → mOpC P ops i K a w := fun hy H => by
    unfold mOpC; simp only [hi]; exact .inl ⟨v, hy, H⟩
  intro f
  induction f with
  | zero =>
    intro listed a w inv _ hr hy H
    have hun := (mem_ready.1 hr).1
    refine ⟨fun h => (by rw [h] at hr; cases hr), fun j hj => ?_⟩
    have hjn : j < n := by
      rcases Nat.lt_or_ge j n with h | h
      · exact h
      · exact absurd hj (tail_waits hs hc hn inv _ i rfl hin hun j h)
    refine ⟨hjn, ?_⟩
    by_cases hji : j = i
    · subst hji; exact here hy H
    · have := hdone _ _ _ (H w (kp_refl w)) j (ready_mono hj hji)
      omega
  | succ f ih =>
    intro listed a w inv hfree hr hy H
    have hun := (mem_ready.1 hr).1
    refine ⟨fun h => (by rw [h] at hr; cases hr), fun j hj => ?_⟩
    have hjn : j < n := by
      rcases Nat.lt_or_ge j n with h | h
      · exact h
      · exact absurd hj (tail_waits hs hc hn inv _ i rfl hin hun j h)
    refine ⟨hjn, ?_⟩
    by_cases hji : j = i
    · subst hji; exact here hy H
    · have h1 := (H.2 j (ready_mono hj hji)).2
      obtain ⟨hjun, oj, hoj, hall⟩ := mem_ready.1 hj
      have hnot : ∀ e ∈ oj.after, Region.binds md e = true → e.on ≠ i := fun e he hb heq => by
        have h1 := hall e he hb
        rw [heq, getD_both hun] at h1
        cases h1
      have h2 := mOp_putC hoj (hfree j oj hoj hji hjun hnot) (fun cs b => hsel i oi cs b hi) (fun cs b => hsel j oj cs b hoj) hy h1
      have hfree' : ∀ k ok, ops[k]? = some ok → k ≠ i → (listed.setIfInBounds j true).getD k true = false →
          (∀ e ∈ ok.after, Region.binds md e = true → e.on ≠ i) → oi.apart ops ok = true := fun k ok hk hki hun hno => by
        refine hfree k ok hk hki ?_ hno
        by_cases hjk : j = k
        · subst hjk; exact hjun
        · rw [getD_set_ne true hjk] at hun; exact hun
      refine mOp_monoC (fun a' w' h3 => ih (listed.setIfInBounds j true) a' w' (inv.set hj hjn) hfree' (ready_mono hr (Ne.symm hji)) h3.1 ?_) h2
      rw [Array.setIfInBounds_comm _ _ hji]
      exact h3.2

theorem inv_marks {n : Nat} {A : Array Bool} (inv : HeadInv md ops n A) : ∀ {X : List Nat}, X.Nodup → (∀ x ∈ X, x < n ∧ A.getD x true = false ∧ ∃ o, ops[x]? = some o ∧ ∀ e ∈ o.after, Region.binds md e = true → False) → HeadInv md ops n (marks X A)
  | [], _, _ => inv
  | x :: X, hd, h => by
    obtain ⟨hd1, hd2⟩ := List.nodup_cons.1 hd
    have ih := inv_marks inv hd2 fun y hy => h y (List.mem_cons_of_mem _ hy)
    obtain ⟨h1, h2, o, ho, h3⟩ := h x (List.mem_cons_self ..)
    exact ih.set (i := x) (mem_ready.2 ⟨by rw [marks_not true A hd1]; exact h2, o, ho, fun e he hb => (h3 e he hb).elim⟩) h1
end

/-- The walk in the order that is laid. -/
def wpMixC (P : Program) (l : List Oper) (Q : Exit → Act → World → Prop) : List Nat → Act → World → Prop
  | [], a, w => ∀ w', (∃ p : Kept allS w, w' = p.v) → Q .normal a w'
  | i :: rest, a, w => match l[i]? with
    | none => False
    | some o => if calmK o then wpQuiet P l.toArray (fun w' => ∃ p : Kept allS w, w' = p.v) (fun a' => wpMixC P l Q rest a' w) [o] a
      else ∀ w', (∃ p : Kept allS w, w' = p.v) → wpList P l.toArray (fun e a' w'' => e = .normal ∧ (∃ p : Kept allS w', w'' = p.v) ∧ wpMixC P l Q rest a' w'') [o] a w'

def mixFromC (md : Region.Mode) (ops : Array Oper) (n : Nat) : List Nat → Array Bool → Bool
  | [], listed => Region.seqB md ops (ops.size - n) n listed
  | i :: rest, listed => (match ops[i]? with
    | none => false
    | some o => if calmK o then (Region.ready md ops listed).contains i && Region.free md ops listed i else decide (Region.ready md ops listed = [i])) && mixFromC md ops n rest (listed.setIfInBounds i true)
def mixBC (X : List Nat) (l : List Oper) (n : Nat) (ord : List Nat) : Bool :=
  Region.noSelect l.toArray && decide (n < l.toArray.size) && decide (ord.length + X.length = n) && ord.all (fun i => decide (i < n)) && Region.sinkB .any l.toArray n && Region.chainB .any l.toArray n && freeB .any l.toArray n X && mixFromC .any l.toArray n ord (marks X (Array.replicate l.toArray.size false))

section
variable {P : Program} {l : List Oper} {Q : Exit → Act → World → Prop} {md : Region.Mode}
theorem wpAnyC_mix {n : Nat} {L : Exit → Act → World → Prop} {TL : Array Bool → Act → World → Prop} (hsel : Region.noSelect l.toArray = true) (hs : Region.sinkB md l.toArray n = true) (hc : Region.chainB md l.toArray n = true) (hn : n < l.toArray.size)
    (hL : ∀ listed a w, Region.seqB md l.toArray (l.toArray.size - n) n listed = true → L .normal a w → TL listed a w) (hdone : ∀ listed a w, TL listed a w → ∀ j ∈ Region.ready md l.toArray listed, n ≤ j) : ∀ (ord : List Nat) (listed : Array Bool) (a : Act) (w : World), (∀ i ∈ ord, i < n) → HeadInv md l.toArray n listed → mixFromC md l.toArray n ord listed = true → wpMixC P l L ord a w → wpAnyC P md l.toArray n TL ord.length listed a w
  | [], listed, a, w, _, _, hB, h => fun w' hw => hL _ _ _ hB (h w' hw)
  | i :: ord, listed, a, w, hlt, inv, hB, h => by
    simp only [mixFromC, Bool.and_eq_true] at hB
    obtain ⟨hB1, hB2⟩ := hB
    have hin : i < n := hlt i (by simp)
    have hlt' : ∀ j ∈ ord, j < n := fun j hj => hlt j (by simp [hj])
    have hll : l.toArray[i]? = l[i]? := by simp
    rw [hll] at hB1
    unfold wpMixC at h
    cases ho : l[i]? with
    | none => rw [ho] at hB1; simp at hB1
    | some o =>
      rw [ho] at hB1 h
      rw [ho] at hll
      simp only [] at hB1 h
      by_cases hc' : calmK o = true
      · rw [if_pos hc'] at hB1
        rw [if_pos hc'] at h
        simp only [Bool.and_eq_true] at hB1
        obtain ⟨hr, hf⟩ := hB1
        have hr' : i ∈ Region.ready md l.toArray listed := by simpa using hr
        have : ∃ v, MYDk allS P l.toArray w o v a ∧ wpMixC P l L ord (a.put o.dst v) w := by
          unfold wpQuiet at h
          by_cases hw : Region.wanted o (yielded l.toArray a.tmps) = true
          · rw [if_pos hw] at h
            obtain ⟨v, h1, h2⟩ := h
            refine ⟨v, .inl ⟨hw, fun w' hw' => ?_⟩, h2⟩
            have h3 := h1 w' hw'
            unfold Oper.quietAt at h3
            cases hr : (execOp a.eval o).run P w' with
            | ok n w2 =>
              rw [hr] at h3
              cases n <;> simp only [Oper.quietUpon] at h3
              case value u => obtain ⟨rfl, rfl⟩ := h3; exact .inl rfl
              case skip => obtain ⟨rfl, rfl⟩ := h3; exact .inr (.inl ⟨rfl, rfl⟩)
              case enter f args => exact (calm_enterK hc' hr).elim
            | halt x w2 => rw [hr] at h3; simp only [Oper.quietUpon] at h3
          · rw [if_neg hw] at h
            exact ⟨undef, .inr ⟨by simpa using hw, rfl⟩, h⟩
        obtain ⟨v, hy, hK⟩ := this
        exact wpAnyC_first hll (Region.noSelect_spec hsel) hs hc hn hin hdone ord.length listed a w inv (Region.free_spec hll hf) hr' hy (wpAnyC_mix hsel hs hc hn hL hdone ord _ _ w hlt' (inv.set hr' hin) hB2 hK)
      · rw [if_neg hc'] at hB1
        rw [if_neg hc'] at h
        have hr : Region.ready md l.toArray listed = [i] := by simpa using hB1
        have hr' : i ∈ Region.ready md l.toArray listed := by rw [hr]; simp
        refine ⟨fun h0 => (by rw [hr] at h0; cases h0), fun j hj => ?_⟩
        rw [hr, List.mem_singleton] at hj
        subst hj
        refine ⟨hin, ?_⟩
        unfold mOpC
        rw [hll]
        refine .inr fun w' hw' => ?_
        have h1 := h w' hw'
        unfold wpList at h1
        unfold wpOp
        rw [hll]
        simp only [] at h1 ⊢
        split
        · rename_i hw
          rw [if_pos hw] at h1
          rcases h1 with h1 | ⟨_, _, _, h1, _⟩
          · refine .inl (Oper.wp_q (Q := fun e a' w'' => e = .normal ∧ (∃ p : Kept allS w', w'' = p.v) ∧ wpMixC P l L ord a' w'') (fun e a w he hq => (he hq.1).elim) ?_)
            refine Oper.wp_mono ?_ h1
            exact fun a' w'' h2 => ⟨h2.2.1, wpAnyC_mix hsel hs hc hn hL hdone ord _ a' w'' hlt' (inv.set hr' hin) hB2 h2.2.2⟩
          · cases h1
        · rename_i hw
          rw [if_neg hw] at h1
          exact ⟨h1.2.1, wpAnyC_mix hsel hs hc hn hL hdone ord _ _ w' hlt' (inv.set hr' hin) hB2 h1.2.2⟩


theorem puts_none (ops : Array Oper) (a : Act) : ∀ X : List Nat, puts ops (fun _ => none) X a = a
  | [] => rfl
  | _ :: X => by unfold puts; exact puts_none ops a X
theorem cnt_none (X : List Nat) (A : Array Bool) (h : ∀ x ∈ X, A.getD x true = false) : cnt X A = X.length := by
  induction X with
  | nil => rfl
  | cons x X ih =>
    show (if A.getD x true then 0 else 1) + cnt X A = X.length + 1
    rw [h x (List.mem_cons_self ..), ih fun y hy => h y (List.mem_cons_of_mem _ hy)]
    simp; omega

/-- **One walk of the head's order that is laid, then the free allocs (their blocks: apart, new, as they were laid), then the tail, serves every order.** -/
theorem wp_region_mixA {id : Nat} {a : Act} {w : World} (X : List Nat) (Z : Nat → Array Value) (T : Nat → TypeId) (n : Nat) (ord : List Nat) (hm : P.follows .mixedOrders = true) (hB : mixBC X l n ord = true) (hF : FreeA P l.toArray X Z T)
    (h : wpMixC P l (fun _ a' w' => ∀ dn, Made X Z T w.heap.size dn w' → (∀ x ∈ X, (dn x).isSome = true) → wpList P l.toArray Q (l.drop n) (puts l.toArray dn X a') w') ord a w.drew) : (Code.region id l.toArray true).wp P Q a w := by
  simp only [mixBC, Bool.and_eq_true, decide_eq_true_eq, List.all_eq_true] at hB
  obtain ⟨⟨⟨⟨⟨⟨⟨hsel, hn⟩, hlen⟩, hlt⟩, hs⟩, hc⟩, hX⟩, hB⟩ := hB
  have hdl : (l.drop n).length = l.toArray.size - n := by simp
  have inv0 : HeadInv .any l.toArray n (Array.replicate l.toArray.size false) :=
    ⟨by simp, fun j oj _ hl => (by rw [getD_replicate_false] at hl; cases hl), fun t _ ht => getD_in (by simpa using ht) (getD_replicate_false _ _)⟩
  obtain ⟨hnd, hXs⟩ := freeB_spec hX
  have hx0 : ∀ x ∈ X, (Array.replicate l.toArray.size false).getD x true = false := fun x hx => getD_in (by have := (hXs x hx).1; simp at hn ⊢; omega) (getD_replicate_false _ _)
  have inv1 := inv_marks inv0 hnd fun x hx => ⟨(hXs x hx).1, hx0 x hx, by
    obtain ⟨o, ho, -, -⟩ := hF x hx
    exact ⟨o, ho, ((hXs x hx).2 o ho).1⟩⟩
  let TL : Array Bool → Act → World → Prop := fun listed a' w' => Region.seqB .any l.toArray (l.toArray.size - n) n listed = true ∧ ∀ dn, Made X Z T w.heap.size dn w' → (∀ x ∈ X, (dn x).isSome = true) → wpList P l.toArray Q (l.drop n) (puts l.toArray dn X a') w'
  have hdone : ∀ listed a w, TL listed a w → ∀ j ∈ Region.ready .any l.toArray listed, n ≤ j := fun _ _ _ hL => seqB_ready hL.1
  have H := wpAnyC_mix (md := .any) (TL := TL) hsel hs hc hn (fun listed a w h1 h2 => ⟨h1, h2⟩) hdone ord _ a w.drew hlt inv1 hB h
  refine wp_region_any hm ?_
  have := wpAny_free (md := .any) (Q := Q) (g := l.toArray.size - n) (b := w.heap.size) (Region.noSelect_spec hsel) hX hF hs hc hn hdone
    (fun listed a' w' dn hL hM hd => by
      have := wpAny_of_seq (md := .any) (Q' := Q) (l.drop n) n listed (puts l.toArray dn X a') w' (fun j => by simp [List.getElem?_drop]) (by rw [hdl]; exact hL.1) (hL.2 dn hM hd)
      rwa [hdl] at this) (ord.length + X.length) ord.length _ (fun _ => none) a w.drew (by rw [cnt_none X _ hx0]) inv0 (fun x hx => by rw [hx0 x hx]; rfl) ⟨(fun _ _ _ h => nomatch h), (fun _ _ _ h => nomatch h), (fun _ _ _ _ _ _ _ h => nomatch h)⟩ (Nat.le_refl _) H
  rw [puts_none, hlen, show n + (l.toArray.size - n) = l.toArray.size by omega] at this
  exact this

theorem mix_endC {a : Act} {w : World} (h : ∀ w', Stand allS w w' → Q .normal a w') : wpMixC P l Q [] a w := fun w' hw => by obtain ⟨p, rfl⟩ := hw; exact h _ p.h
theorem mix_calmC {a : Act} {w : World} {i : Nat} {rest : List Nat} {o : Oper} {t : List Oper} (h0 : l.drop i = o :: t) (hc : calmK o = true)
    (h : wpQuiet P l.toArray (fun w' => ∃ p : Kept allS w, w' = p.v) (fun a' => wpMixC P l Q rest a' w) [o] a) : wpMixC P l Q (i :: rest) a w := by
  have hl : l[i]? = some o := by have := congrArg (·[0]?) h0; simpa using this
  unfold wpMixC
  rw [hl]
  simp only [hc, if_true]
  exact h
theorem mix_loudC {a : Act} {w : World} {i : Nat} {rest : List Nat} {o : Oper} {t : List Oper} (h0 : l.drop i = o :: t) (hc : calmK o = false)
    (h : ∀ w', Stand allS w w' → ∀ K : Exit → Act → World → Prop, (∀ a' w'', Stand allS w' w'' → wpMixC P l Q rest a' w'' → K .normal a' w'') → wpList P l.toArray K [o] a w') : wpMixC P l Q (i :: rest) a w := by
  have hl : l[i]? = some o := by have := congrArg (·[0]?) h0; simpa using this
  unfold wpMixC
  rw [hl]
  simp only [hc, Bool.false_eq_true, if_false]
  intro w' hw
  obtain ⟨p, rfl⟩ := hw
  exact h _ p.h _ fun a' w'' h1 h2 => ⟨rfl, kp_of h1, h2⟩
theorem made_one {Z : Nat → Array Value} {T : Nat → TypeId} {x b : Nat} {w : World} {ops : Array Oper} {a : Act} {R : Act → Prop} (dx : Option Tmp) (hx : dstA ops x = dx)
    (h : ∀ g, Blk w g (T x) (Z x) → b ≤ g → R (a.put dx (.pointer (some ⟨g, 0, none⟩)))) : ∀ dn, Made [x] Z T b dn w → (∀ y ∈ [x], (dn y).isSome = true) → R (puts ops dn [x] a) := by
  intro dn hM hd
  subst hx
  have h1 := hd x (List.mem_cons_self ..)
  cases h2 : dn x with
  | none => rw [h2] at h1; cases h1
  | some g =>
    unfold puts
    rw [h2]
    exact h g (hM.blk x (List.mem_cons_self ..) g h2) (hM.base x (List.mem_cons_self ..) g h2)
theorem made_two {Z : Nat → Array Value} {T : Nat → TypeId} {x y b : Nat} (hxy : x ≠ y) {w : World} {ops : Array Oper} {a : Act} {R : Act → Prop} (dx dy : Option Tmp) (hdx : dstA ops x = dx) (hdy : dstA ops y = dy)
    (h : ∀ g k, Blk w g (T x) (Z x) → Blk w k (T y) (Z y) → b ≤ g → b ≤ k → g ≠ k → R ((a.put dy (.pointer (some ⟨k, 0, none⟩))).put dx (.pointer (some ⟨g, 0, none⟩)))) : ∀ dn, Made [x, y] Z T b dn w → (∀ z ∈ [x, y], (dn z).isSome = true) → R (puts ops dn [x, y] a) := by
  intro dn hM hd
  subst hdx
  subst hdy
  have hx : x ∈ [x, y] := by simp
  have hy : y ∈ [x, y] := by simp
  have h1 := hd x hx
  have h1' := hd y hy
  cases h2 : dn x with
  | none => rw [h2] at h1; cases h1
  | some g =>
    cases h3 : dn y with
    | none => rw [h3] at h1'; cases h1'
    | some k =>
      have h4 := h g k (hM.blk x hx g h2) (hM.blk y hy k h3) (hM.base x hx g h2) (hM.base y hy k h3) (hM.ne x hx y hy hxy g k h2 h3)
      simpa only [puts, h2, h3] using h4
end

end Go.Proofs.Ytfkooohnaodjmaa
