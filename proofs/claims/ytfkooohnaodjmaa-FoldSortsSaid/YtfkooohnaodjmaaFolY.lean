/- Contract of fold.Sort: slices.SortFunc by the library's contract (draws only grow), slices.Compact. -/
import Derived.Test.YtfkooohnaodjmaaFolX
import Derived.Test.YtfkooohnaodjmaaFolS
import Derived.Test.YtfkooohnaodjmaaDrawn
import Derived.Test.YtfkooohnaodjmaaLayX
import Derived.Shelf.Abstract
namespace Go.Proofs.Ytfkooohnaodjmaa
open Go.RowKit Go.Sort Go.Shelf

theorem grow_of_below {w w' : World} (b : Below w.heap.size w w') (h : w.drawn ≤ w'.drawn) : ∃ q os', w' = grow (w.drewN q) os' := by
  refine ⟨w'.drawn - w.drawn, w'.heap.extract w.heap.size w'.heap.size, ?_⟩
  obtain ⟨heap, tape, drawn, os, output⟩ := w
  obtain ⟨heap', tape', drawn', os', output'⟩ := w'
  obtain ⟨b1, b2, b3, b4, b5⟩ := b
  simp only at b1 b2 b3 b4 b5 h
  subst b1 b2 b3
  unfold grow World.drewN
  simp only [World.mk.injEq, and_true, true_and]
  refine ⟨?_, by omega⟩
  apply Array.ext_getElem?
  intro i
  rw [Array.getElem?_append]
  split
  · rename_i hi
    exact b5 i hi
  · rename_i hi
    rw [Array.getElem?_extract]
    split
    · congr 1; omega
    · rw [Array.getElem?_eq_none (by omega)]
/-- Texts that are not too long. -/
abbrev Tz := {s : ByteArray // s.size ≤ 10000000}
instance : Inhabited Tz := ⟨⟨⟨#[]⟩, by decide⟩⟩
def encZ (s : Tz) : Value := .string s.1
def cmpZ (a b : Tz) : Int := natC a.1 b.1
theorem cmp_Z : Cmp cmpZ := nat_C.by_ (fun s : Tz => s.1)
theorem natural_lays (W : World) (x y : Tz) : Calls Try.prog 14 #[encZ x, encZ y] W fun e w' => e = .returned (.int .i64 (cmpZ x y)) ∧ ∃ q os', w' = grow (W.drewN q) os' := by
  refine (Calls.drawn (fold_Natural x.1 y.1 x.2 y.2 W)).mono ?_
  rintro e w' ⟨⟨he, b⟩, hd⟩
  refine ⟨he, grow_of_below b ?_⟩
  rcases hd with hd | hd
  · rw [he] at hd; cases hd
  · exact hd
theorem swo_of {α : Type} {c : α → α → Int} (h : Cmp c) : SWO (ltOf c) where
  irrefl x := by
    unfold ltOf
    rw [h.self]
    rfl
  trans x y z h1 h2 := by
    unfold ltOf at *
    exact decide_eq_true (h.lt_le (of_decide_eq_true h1) (Int.le_of_lt (of_decide_eq_true h2)))
  ntrans x y z h1 h2 := by
    unfold ltOf at *
    have h1 := of_decide_eq_false h1
    have h2 := of_decide_eq_false h2
    have e1 := h.anti x y
    have e2 := h.anti y z
    have e3 := h.anti x z
    have := h.tr z y x (by omega) (by omega)
    exact decide_eq_false (by omega)
def sortZ (l : List Tz) : List Tz := l.mergeSort fun x y => !(ltOf cmpZ) y x
theorem sortZ_perm (l : List Tz) : (sortZ l).Perm l := List.mergeSort_perm _ _
theorem sortZ_up (l : List Tz) : (sortZ l).Pairwise fun s t => cmpZ s t ≤ 0 := by
  have h := List.pairwise_mergeSort (le := fun x y => !(ltOf cmpZ) y x) (fun a b c h1 h2 => by
    have := (swo_of cmp_Z).ntrans c b a
    simp only [Bool.not_eq_true'] at h1 h2 ⊢
    exact this h2 h1) (fun a b => by
    unfold ltOf
    have := cmp_Z.anti a b
    by_cases h : cmpZ a b < 0
    · simp only [decide_eq_true h]
      simp; omega
    · simp only [decide_eq_false h]
      simp) l
  refine h.imp fun {a b} h => ?_
  simp only [Bool.not_eq_true'] at h
  unfold ltOf at h
  have h := of_decide_eq_false h
  have := cmp_Z.anti a b
  omega
theorem get_rowZ {α : Type} [Inhabited α] (l : List α) (j : Nat) (hj : j < l.length) : l.toArray[j]! = l[j] := by
  rw [getElem!_pos l.toArray j (by simpa using hj)]
  simp
theorem below_sortedZ {α : Type} [Inhabited α] {enc : α → Value} {w : World} {B b : Nat} (hB : B ≤ b) (hb : b < w.heap.size) (m : Nat) (d : Array α) (os : Array Obj) : Below B w (sortWorld enc w b 0 m d os) := by
  unfold sortWorld putRow mapBlock
  refine ⟨rfl, rfl, rfl, ?_, fun q hq => ?_⟩
  · rw [size_grow]
    show w.heap.size ≤ (Array.modify w.heap b _).size + _
    rw [Array.size_modify]
    omega
  · show (Array.modify w.heap b _ ++ os)[q]? = w.heap[q]?
    rw [Array.getElem?_append_left (by rw [Array.size_modify]; omega), Array.getElem?_modify, if_neg (by omega)]
theorem holds_strs {w : World} {b : Nat} {S : List ByteArray} (h : ∀ j (hj : j < S.length), w.cell? ⟨b, 0 + j, none⟩ = some (.string S[j]) ∧ w.frozen? ⟨b, 0 + j, none⟩ = false) : Holds encStr w b 0 (S.map bl).toArray := by
  intro j hj
  have hjl : j < S.length := by simpa using hj
  obtain ⟨h1, h2⟩ := h j hjl
  refine ⟨?_, h2⟩
  rw [h1, get_rowZ _ _ (by simpa using hjl)]
  simp only [List.getElem_map]
  rfl
theorem reads_strs {w : World} {b : Nat} {S : List ByteArray} {d : List (List UInt8)} (hb : b < w.heap.size) (hd : S.map bl <+: d) (h : Holds encStr w b 0 d.toArray) : Reads w w.heap.size 1 (some ⟨b, 0, none⟩) S.length (S.map Value.string) := by
  obtain ⟨r, rfl⟩ := hd
  refine ⟨by simp, fun _ => ⟨_, rfl, hb, fun j u hu => ?_⟩⟩
  have hj : j < S.length := by
    have := (List.getElem?_eq_some_iff.1 hu).1
    simpa using this
  obtain ⟨hc, -⟩ := h j (by simp; omega)
  rw [List.getElem?_map, List.getElem?_eq_getElem hj] at hu
  injection hu with hu
  rw [add_lit, hc, ← hu, get_rowZ _ _ (by simp; omega)]
  rw [List.getElem_append_left (by simpa using hj)]
  simp only [List.getElem_map]
  rfl
theorem below_put {α : Type} [Inhabited α] {enc : α → Value} {w : World} {B b : Nat} (hB : B ≤ b) (m : Nat) (d : Array α) : Below B w (putRow enc (Sort.ahead w m) b 0 d) := by
  unfold putRow mapBlock
  refine ⟨rfl, rfl, rfl, ?_, fun q hq => ?_⟩
  · show w.heap.size ≤ (Array.modify w.heap b _).size
    rw [Array.size_modify]
    omega
  · show (Array.modify w.heap b _)[q]? = w.heap[q]?
    rw [Array.getElem?_modify, if_neg (by omega)]

set_option maxRecDepth 100000 in
theorem texts_Sort (g c base : Nat) (l : List ByteArray) (w : World) (ho : OwnX w base (.slice (some ⟨g, 0, none⟩) l.length c) l) (hz : ∀ s ∈ l, s.size ≤ 10000000) (hn : l.length ≤ 1000000) :
    Calls Try.prog 44 #[.slice (some ⟨g, 0, none⟩) l.length c, .func (.func 14) #[] #[]] w fun e w' => e = .returned (.tuple #[]) ∧ ∃ S : List ByteArray, S.Perm l ∧ (S.Pairwise fun a b => natC a b ≤ 0) ∧ Holds encStr w' g 0 (S.map bl).toArray ∧ Below g w w' ∧ g < w'.heap.size := by
  obtain ⟨L, hL⟩ : ∃ L : List Tz, L.map Subtype.val = l := ⟨l.attachWith _ hz, List.attachWith_map_subtype_val ..⟩
  have hlen : L.length = l.length := by rw [← hL, List.length_map]
  have hg2 : g < w.heap.size := (World.ownsRow.lt ho g rfl).2
  have eg : ∀ args w, (callFunc 14 args).run Try.prog w = .ok (.enter 14 args) w := enters_of Try.func14 (by kernel_rfl) rfl
  have hH : Holds encZ w g 0 L.toArray := by
    intro j hj
    have hjl : j < l.length := by simpa [hlen] using hj
    have h1 := ho.at_ j hjl
    refine ⟨?_, World.ownsRow.frozenAt ho _⟩
    rw [Nat.zero_add, h1, get_rowZ _ _ (by omega)]
    congr 1
    show Value.string _ = Value.string _
    congr 1
    subst hL
    simp
  have h := Any.slices_SortFunc_total (P := Try.prog) (ρ := Try.sortX_ren) Try.sortX encZ (fun _ => rfl) cmpZ (swo_of cmp_Z) 14 #[] g 0 c L.toArray w eg
    (fun m os dk hs x y => natural_lays _ x y) hH hg2 (by simp; omega) (fun x y h1 h2 => by
      unfold ltOf at h1 h2
      have h1 := of_decide_eq_false h1
      have h2 := of_decide_eq_false h2
      have := cmp_Z.anti x y
      exact Subtype.ext ((natC_zero _ _).1 (by unfold cmpZ at *; omega)))
  have e0 : L.toArray.size = l.length := by simpa using hlen
  rw [e0] at h
  refine h.mono ?_
  rintro e w' ⟨rfl, m, os, rfl⟩
  have hd : ((L.toArray.toList.mergeSort fun x y => !(ltOf cmpZ) y x).toArray) = (sortZ L).toArray := rfl
  rw [hd]
  have hp : (sortZ L).length = L.length := (sortZ_perm L).length_eq
  have hh := holds_sortWorld encZ w g 0 m L.toArray (sortZ L).toArray os hg2 hH (by simpa using hp)
  refine ⟨rfl, (sortZ L).map Subtype.val, ?_, List.pairwise_map.2 (sortZ_up L), holds_strs fun j hj => ?_, below_sortedZ (Nat.le_refl _) hg2 m _ os, Nat.lt_of_lt_of_le hg2 (below_sortedZ (B := 0) (Nat.zero_le _) hg2 m _ os).size⟩
  · rw [← hL]; exact (sortZ_perm L).map _
  · have hjz : j < (sortZ L).length := by simpa using hj
    obtain ⟨h1, h2⟩ := hh j (by simpa using hjz)
    refine ⟨?_, h2⟩
    rw [h1, get_rowZ _ _ hjz]
    simp [encZ]

/-- What fold.Sort hands back: a row that reads so. -/
def SortTo (w : World) (l : List ByteArray) (e : Ending) (w' : World) : Prop := ∃ A n c, e = .returned (.slice A n c) ∧ (sortN l).length = n ∧ (A = none → c = 0) ∧ Reads w' w'.heap.size 1 A n ((sortN l).map Value.string) ∧ Below w.heap.size w w'

set_option maxRecDepth 100000 in
set_option maxHeartbeats 2000000 in
theorem fold_Sort (A : Option Addr) (n cc : Nat) (l : List ByteArray) (w : World) (hr : Reads w w.heap.size 1 A n (l.map Value.string)) (hA : A = none → cc = 0) (hz : ∀ s ∈ l, s.size ≤ 10000000) (hn : n ≤ 1000000) :
    Calls Try.prog 17 #[.slice A n cc] w (SortTo w l) := by
  have hnl : l.length = n := by have := hr.1; simpa using this
  have HC := Lib.hid (texts_Clone A n cc l w hr hA hn)
  clear hr
  rcases Nat.eq_zero_or_pos n with h0 | h0
  · have hl := List.eq_nil_of_length_eq_zero (hnl.trans h0)
    subst hl
    subst h0
    go_enter Try.func17, Try.ntmps17
    go_wp2_with fail
    refine HC.out.mono ?_
    rintro e w1 ⟨v1, rfl, o1, b1⟩
    obtain ⟨A1, c1, rfl, -, h1, -⟩ := o1.form
    have HS := Lib.hid (AnyF.slices_SortFunc_none (P := Try.prog) (ρ := Try.sortO_ren) Try.sortO A1 c1 (.func (.func 14) #[] #[]) w1)
    have HK := Lib.hid (Try.slices_Compact_string_empty A1 c1 w1)
    have F : Hid (SortTo w [] (.returned (.slice A1 0 c1)) w1) := Lib.hid ⟨A1, 0, c1, rfl, rfl, h1, ⟨rfl, fun h => absurd h (by decide)⟩, b1⟩
    clear o1 HC
    go_wp2_with fail
    refine HS.out.mono ?_
    rintro e w2 ⟨rfl, rfl⟩
    go_wp2_with fail
    refine HK.out.mono ?_
    rintro e w3 ⟨rfl, rfl⟩
    go_wp2_with fail
    go_ret
    exact F.out
  · subst hnl
    go_enter Try.func17, Try.ntmps17
    go_wp2_with fail
    refine HC.out.mono ?_
    rintro e w1 ⟨v1, rfl, o1, b1⟩
    obtain ⟨A1, c1, rfl, hc1, -, hg⟩ := o1.form
    obtain ⟨g, rfl, hg1, hg2⟩ := hg h0
    have HS := Lib.hid (texts_Sort g c1 w.heap.size l w1 o1 hz hn)
    clear o1 HC
    go_wp2_with fail
    refine HS.out.mono ?_
    rintro e w2 ⟨rfl, S, hp, hs, hh, b2, hlt⟩
    have hSl : S.length = l.length := hp.length_eq
    have HK := Lib.hid (Try.slices_Compact_string g 0 c1 (S.map bl) w2 hh (by simp; omega) (by simp; omega))
    rw [List.length_map, hSl, compact_sortN l S hp hs, List.length_map] at HK
    have HH := Lib.hid hh
    have hle : (sortN l).length ≤ l.length := by have := sortN_len l []; simpa [sortN] using this
    have F : Hid (∀ q, SortTo w l (.returned (.slice (some ⟨g, 0, none⟩) (sortN l).length c1)) (putRow encStr (Sort.ahead w2 q) g 0 ((sortN l).map bl ++ List.replicate (l.length - (sortN l).length) []).toArray)) := Lib.hid (fun q => by
      have hbp : Below g w2 (putRow encStr (Sort.ahead w2 q) g 0 ((sortN l).map bl ++ List.replicate (l.length - (sortN l).length) []).toArray) := below_put (Nat.le_refl _) q _
      have hB : Below w.heap.size w w1 := b1
      refine ⟨_, _, _, rfl, rfl, (fun h => by cases h), ?_, (hB.trans (Below.mono b2 hg1)).trans (hbp.mono hg1)⟩
      refine reads_strs (Nat.lt_of_lt_of_le hlt hbp.size) (List.prefix_append _ _) (holds_putRow encStr _ g 0 (S.map bl).toArray _ (holds_ahead encStr w2 q g 0 _ HH.out) ?_)
      simp [hSl]
      omega)
    obtain ⟨n2, hn2⟩ : ∃ n2, (sortN l).length = n2 := ⟨_, rfl⟩
    obtain ⟨D, hD⟩ : ∃ D, ((sortN l).map bl ++ List.replicate (l.length - (sortN l).length) []).toArray = D := ⟨_, rfl⟩
    rw [hD] at F HK
    rw [hn2] at HK F hle
    clear hn2 hD hh hp hs hSl HS
    go_wp2_with fail
    refine HK.out.mono ?_
    rintro e w3 ⟨rfl, q, rfl⟩
    go_wp2_with fail
    go_ret
    exact F.out q
end Go.Proofs.Ytfkooohnaodjmaa
