/- slices.SortFunc over spans: by the library's contract. -/
import Derived.Test.YtomefcngaclehaaSpnD
import Derived.Test.YtomefcngaclehaaLayP
namespace Go.Proofs.Ytomefcngaclehaa
open Go.RowKit Go.Sort Go.Shelf

theorem swo_of {α : Type} {c : α → α → Int} (h : Cmp c) : SWO (ltOf c) where
  irrefl x := by
    unfold ltOf
    rw [h.self]
    rfl
  trans x y z h1 h2 := by
    unfold ltOf at *
    exact decide_eq_true (h.lt_le (of_decide_eq_true h1) (Int.le_of_lt (of_decide_eq_true h2)))
  ntrans x y z h1 h2 := by
    unfold ltOf at *
    have h1 := of_decide_eq_false h1
    have h2 := of_decide_eq_false h2
    have e1 := h.anti x y
    have e2 := h.anti y z
    have e3 := h.anti x z
    have := h.tr z y x (by omega) (by omega)
    exact decide_eq_false (by omega)
theorem text_extP {a b : ByteArray} (h : a.toList = b.toList) : a = b := by
  rw [Go.ByteArray.toList_eq, Go.ByteArray.toList_eq] at h
  apply ByteArray.ext
  exact Array.toList_inj.1 h
theorem cmpT_eq (a b : ByteArray) (h : cmpT a b = 0) : a = b := text_extP ((cmpT_zero a b).1 h)
theorem cmp_P : Cmp cmpP := (cmp_T.by_ Prod.fst).lex ((cmp_T.by_ Prod.snd).lex Cmp.none_)
theorem cmpP_eq (x y : Sp) (h : cmpP x y = 0) : x = y := by
  unfold cmpP orL orL orL at h
  split at h
  · rename_i h1
    split at h
    · rename_i h2
      exact Prod.ext (cmpT_eq _ _ h1) (cmpT_eq _ _ h2)
    · contradiction
  · contradiction
theorem cmpP_from (x y : Sp) (h : cmpP x y ≤ 0) : cmpT x.1 y.1 ≤ 0 := by
  unfold cmpP orL at h
  split at h
  · omega
  · exact h
/-- Spans sorted. -/
def sortP (l : List Sp) : List Sp := l.mergeSort fun x y => !(ltOf cmpP) y x
theorem sortP_perm (l : List Sp) : (sortP l).Perm l := List.mergeSort_perm _ _
theorem sortP_up (l : List Sp) : (sortP l).Pairwise fun s t => cmpT s.1 t.1 ≤ 0 := by
  have h := List.pairwise_mergeSort (le := fun x y => !(ltOf cmpP) y x) (fun a b c h1 h2 => by
    have := (swo_of cmp_P).ntrans c b a
    simp only [Bool.not_eq_true'] at h1 h2 ⊢
    exact this h2 h1) (fun a b => by
    unfold ltOf
    have := cmp_P.anti a b
    by_cases h : cmpP a b < 0
    · simp only [decide_eq_true h]
      simp; omega
    · simp only [decide_eq_false h]
      simp) l
  refine h.imp fun {a b} h => cmpP_from _ _ ?_
  simp only [Bool.not_eq_true'] at h
  unfold ltOf at h
  have h := of_decide_eq_false h
  have := cmp_P.anti a b
  omega
theorem get_row {α : Type} [Inhabited α] (l : List α) (j : Nat) (hj : j < l.length) : l.toArray[j]! = l[j] := by
  rw [getElem!_pos l.toArray j (by simpa using hj)]
  simp
theorem sp_all (l : List Sp) (k r : Nat) (hk : k < l.length) (hr : r < 2) : (l.flatMap spL)[k * 2 + r]? = some (id (spL l.toArray[k]!)[r]!) := by
  obtain ⟨g0, g1⟩ := sp_get l k hk
  rw [get_row _ _ hk]
  rcases (by omega : r = 0 ∨ r = 1) with rfl | rfl
  · exact g0
  · exact g1
theorem holds_of {w : World} {b n c : Nat} {l : List Sp} {base : Nat} (h : OwnP 41 w base (.slice (some ⟨b, 0, none⟩) n c) l) (hn : l.length = n) : HoldsK spL 2 w b 0 l.toArray := by
  subst hn
  intro j hj
  rw [size_flatK] at hj
  have hjl : j < l.length * 2 := by simpa using hj
  obtain ⟨k, r, hr, rfl⟩ : ∃ k r, r < 2 ∧ j = k * 2 + r := ⟨j / 2, j % 2, by omega, by omega⟩
  have hc := World.ownsRow.cellAt h (k * 2 + r) (by omega)
  refine ⟨?_, by rw [Nat.zero_add]; exact World.ownsRow.frozenAt h _⟩
  rw [Nat.zero_add, hc, get_flatK _ _ _ _ (by simpa using hjl), show (k * 2 + r) / 2 = k by omega, show (k * 2 + r) % 2 = r by omega]
  exact sp_all l k r (by omega) hr
theorem rdP_of {w : World} {b : Nat} {l : List Sp} (hb : b < w.heap.size) (h : HoldsK spL 2 w b 0 l.toArray) : RdP w (some ⟨b, 0, none⟩) l := by
  refine ⟨sp_len l, fun _ => ⟨_, rfl, hb, fun j u hu => ?_⟩⟩
  have hj : j < l.length * 2 := by
    have := (List.getElem?_eq_some_iff.1 hu).1
    rwa [sp_len] at this
  obtain ⟨k, r, hr, rfl⟩ : ∃ k r, r < 2 ∧ j = k * 2 + r := ⟨j / 2, j % 2, by omega, by omega⟩
  obtain ⟨hc, -⟩ := h (k * 2 + r) (by rw [size_flatK]; simpa using hj)
  rw [get_flatK _ _ _ _ (by simpa using hj), show (k * 2 + r) / 2 = k by omega, show (k * 2 + r) % 2 = r by omega] at hc
  rw [add_lit, hc, ← hu]
  exact (sp_all l k r (by omega) hr).symm
theorem below_sorted {α : Type} [Inhabited α] {enc : α → List Value} {k : Nat} {w : World} {B b : Nat} (hB : B ≤ b) (hb : b < w.heap.size) (m : Nat) (d : Array α) (os : Array Obj) : Below B w (sortWorldK enc k w b 0 m d os) := by
  unfold sortWorldK putRowK putRow mapBlock
  refine ⟨rfl, rfl, rfl, ?_, fun q hq => ?_⟩
  · rw [size_grow]
    show w.heap.size ≤ (Array.modify w.heap b _).size + _
    rw [Array.size_modify]
    omega
  · show (Array.modify w.heap b _ ++ os)[q]? = w.heap[q]?
    rw [Array.getElem?_append_left (by rw [Array.size_modify]; omega), Array.getElem?_modify, if_neg (by omega)]

set_option maxRecDepth 100000 in
theorem spans_Sort (v : Value) (l : List Sp) (w : World) (B base : Nat) (ho : OwnP 41 w base v l) (hBb : B ≤ base) (hB : B ≤ w.heap.size) (hn : l.length ≤ 1000000) :
    Calls Try.prog 51 #[v, .func (.func 52) #[] #[]] w fun e w' => e = .returned (.tuple #[]) ∧ ∃ A c, v = .slice A l.length c ∧ l.length ≤ c ∧ (A = none → c = 0) ∧ RdP w' A (sortP l) ∧ Below B w w' := by
  obtain ⟨A, c, rfl, hc, hA, hg⟩ := ho.form
  rcases Nat.eq_zero_or_pos l.length with h0 | h0
  · have hl := List.eq_nil_of_length_eq_zero h0
    subst hl
    have h := AnyF.slices_SortFunc_none (P := Try.prog) (ρ := Try.sortP_ren) Try.sortP A c (.func (.func 52) #[] #[]) w
    refine h.mono ?_
    rintro e w' ⟨rfl, rfl⟩
    exact ⟨rfl, A, c, rfl, hc, hA, by rw [show sortP [] = [] from List.mergeSort_nil]; exact RdP.nil_ _ _, Below.refl _ _⟩
  · obtain ⟨g, rfl, hg1, hg2⟩ := hg h0
    have eg : ∀ args w, (callFunc 52 args).run Try.prog w = .ok (.enter 52 args) w := enters_of Try.func52 (by kernel_rfl) rfl
    have h := AnyQ.slices_SortFunc_total (P := Try.prog) (ρ := Try.sortP_ren) Try.sortP 2 (fun _ => by kernel_rfl) (fun _ => by kernel_rfl) spL (fun _ => rfl) sp_one cmpP (swo_of cmp_P) 52 #[] g 0 c l.toArray w eg
      (fun m os dk hs x y => of_cmp x.1 x.2 y.1 y.2 _) (holds_of ho rfl) hg2 (by simp; omega) (fun x y h1 h2 => by
        unfold ltOf at h1 h2
        have h1 := of_decide_eq_false h1
        have h2 := of_decide_eq_false h2
        have := cmp_P.anti x y
        exact cmpP_eq x y (by omega))
    refine h.mono ?_
    rintro e w' ⟨rfl, m, os, rfl⟩
    refine ⟨rfl, _, c, rfl, hc, hA, ?_, below_sorted (Nat.le_trans hBb hg1) hg2 _ _ _⟩
    have hp : (sortP l).length = l.length := (sortP_perm l).length_eq
    have hd : ((l.toArray.toList.mergeSort fun x y => !(ltOf cmpP) y x).toArray) = (sortP l).toArray := rfl
    rw [hd]
    refine rdP_of ?_ (holdsK_sortWorldK spL 2 w g 0 m l.toArray _ os hg2 (holds_of ho rfl) (by simpa using hp))
    exact Nat.lt_of_lt_of_le hg2 (below_sorted (B := 0) (Nat.zero_le _) hg2 m _ os).size
end Go.Proofs.Ytomefcngaclehaa
