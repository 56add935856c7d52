/- Contract of slices.Clone over stamps. Contract of mut.Copy. -/
import Derived.Test.YtfkooohnaodjmaaMutE
import Derived.Test.YtfkooohnaodjmaaRows1
import Derived.Lib.SliceRun
import Derived.Test.YtfkooohnaodjmaaKeep
import Derived.Test.YtfkooohnaodjmaaRdr
namespace Go.Proofs.Ytfkooohnaodjmaa
open Go.RowKit Go.Sort

theorem info_stampM : (Try.prog.info? 30).map (fun i => (i.zero, i.size, i.bytes)) = some (some (.agg #[.int .i64 0, .int .i64 0, .int .i64 0]), 3, 24) := by kernel_rfl
theorem sc_one (l : List (Int × Int × Int)) : ∀ u ∈ l.flatMap sc, u.oneCell' = true := by
  intro u hu
  obtain ⟨t, _, hu⟩ := List.mem_flatMap.1 hu
  simp only [sc, List.mem_cons, List.mem_nil_iff, or_false] at hu
  rcases hu with rfl | rfl | rfl <;> rfl
/-- A row of stamps that the call owns. -/
def OwnSt (w : World) (base : Nat) (v : Value) (S : List (Int × Int × Int)) : Prop := w.ownsRow base 30 3 v S.length (S.flatMap sc)
def FreshSt (w : World) (l : List (Int × Int × Int)) (e : Ending) (w' : World) : Prop := ∃ v', e = .returned v' ∧ OwnSt w' w.heap.size v' l ∧ Below w.heap.size w w'

set_option maxRecDepth 100000 in
set_option maxHeartbeats 1000000 in
theorem stamps_Clone (A : Option Addr) (n c : Nat) (l : List (Int × Int × Int)) (w : World) (hr : Reads w w.heap.size 3 A n (l.flatMap sc)) (hA : A = none → c = 0) (hlen : n ≤ 1000000000) :
    Calls Try.prog 49 #[.slice A n c] w (FreshSt w l) := by
  have hn := stamps_n hr
  rcases A with _ | ad
  · have hc := hA rfl
    subst hc
    have h0 : n = 0 := by
      rcases Nat.eq_zero_or_pos n with h | h
      · exact h
      · obtain ⟨ad, h1, _⟩ := hr.2 h
        cases h1
    subst h0
    have hl := List.eq_nil_of_length_eq_zero hn
    subst hl
    clear hr hA hn
    have F : Hid (FreshSt w [] (.returned (.slice none 0 0)) w) := Lib.hid ⟨_, rfl, World.ownsRow_nil _ _ _ _, Below.refl _ _⟩
    have hq := fun (w : World) (a : Option Addr) (n c n' c' : Nat) => Lib.run_eql_slice_nil (P := Try.prog) w 31 30 a n c n' c' Try.underlying31
    go_enter Try.func49, Try.ntmps49
    go_wp2
    go_ret
    exact F.out
  · clear hA
    have HR := Lib.hid hr
    clear hr
    have hq := fun (w : World) (a : Option Addr) (n c n' c' : Nat) => Lib.run_eql_slice_nil (P := Try.prog) w 31 30 a n c n' c' Try.underlying31
    obtain ⟨i0, hi, hz0, hz1, hz2⟩ := info_parts info_stampM
    have HI := Lib.hid (And.intro hi (And.intro hz0 (And.intro hz1 hz2)))
    have HN := Lib.hid hn
    clear hi hz0 hz1 hz2 hn
    go_enter Try.func49, Try.ntmps49
    go_wp2_with (at_builtin; go_must (refine wpList_append_any _ rfl _ _ 31 rfl w.heap.size 30 i0 (.agg #[.int .i64 0, .int .i64 0, .int .i64 0]) 3 24 Try.underlying31 HI.out.1 HI.out.2.1 HI.out.2.2.1 HI.out.2.2.2 rfl (by decide) (.slice (some ⟨w.heap.size, 0, none⟩) 0 0) 0 [] rfl (World.ownsRow_made w #[] 0 (Nat.le_refl _) (by decide) (by decide)) w.heap.size (some ad) n c (l.flatMap sc) rfl (HR.out.alloc (Nat.le_refl _) _) (sc_one _) (by unfold maxLen; omega) (by omega) (by simp) ?_); intro v' w1 hown hg hlies)
    go_ret
    refine ⟨v', rfl, ?_, ?_⟩
    · unfold OwnSt
      rw [Nat.zero_add, List.nil_append] at hown
      rw [HN.out]
      exact hown
    · refine Below.grown ((Below.refl _ _).alloc (Nat.le_refl _) _) hg (by simp) ?_
      intro k hk
      have h5 : w.heap.size = k := by simpa [Value.ownBlock] using hk
      omega

end Go.Proofs.Ytfkooohnaodjmaa

namespace Go.Proofs.Ytfkooohnaodjmaa
open Go.RowKit Go.Sort

def FreshM (w : World) (m : Mut) (e : Ending) (w' : World) : Prop := ∃ v', e = .returned (.agg (mutC m v')) ∧ OwnSt w' w.heap.size v' m.ov ∧ Below w.heap.size w w'

set_option maxRecDepth 100000 in
set_option maxHeartbeats 2000000 in
theorem mut_Copy (m : Mut) (A : Option Addr) (n c : Nat) (w : World) (hr : Reads w w.heap.size 3 A n (m.ov.flatMap sc)) (hA : A = none → c = 0) (hn : n ≤ 1000000000) :
    Calls Try.prog 23 #[.agg (mutC m (.slice A n c))] w (FreshM w m) := by
  have B1 := Blk.new w 33 (mutC m (.slice A n c))
  have hm9 : (mutC m (.slice A n c))[9]? = some (.slice A n c) := rfl
  have HR := Lib.hid hr
  have HA := Lib.hid hA
  clear hr hA
  go_enter Try.func23, Try.ntmps23
  go_wp2_with fail
  have B2 := Blk.new (w.alloc (.cells (mutC m (.slice A n c)) 33)) 33 #[.int .i64 0, .int .i64 0, .string ⟨#[]⟩, .string ⟨#[]⟩, .string ⟨#[]⟩, .int .i64 0, .int .i64 0, .int .i64 0, .int .i64 0, .slice none 0 0]
  replace B1 := B1.alloc (.cells #[.int .i64 0, .int .i64 0, .string ⟨#[]⟩, .string ⟨#[]⟩, .string ⟨#[]⟩, .int .i64 0, .int .i64 0, .int .i64 0, .int .i64 0, .slice none 0 0] 33)
  have hB : Below w.heap.size w ((w.alloc (.cells (mutC m (.slice A n c)) 33)).alloc (.cells #[.int .i64 0, .int .i64 0, .string ⟨#[]⟩, .string ⟨#[]⟩, .string ⟨#[]⟩, .int .i64 0, .int .i64 0, .int .i64 0, .int .i64 0, .slice none 0 0] 33)) := ((Below.refl _ _).alloc (Nat.le_refl _) _).alloc (by simp) _
  have hsz : ((w.alloc (.cells (mutC m (.slice A n c)) 33)).alloc (.cells #[.int .i64 0, .int .i64 0, .string ⟨#[]⟩, .string ⟨#[]⟩, .string ⟨#[]⟩, .int .i64 0, .int .i64 0, .int .i64 0, .int .i64 0, .slice none 0 0] 33)).heap.size = w.heap.size + 2 := by simp
  simp only [World.size_alloc] at B2
  clear hm9
  generalize (w.alloc (.cells (mutC m (.slice A n c)) 33)).alloc (.cells #[.int .i64 0, .int .i64 0, .string ⟨#[]⟩, .string ⟨#[]⟩, .string ⟨#[]⟩, .int .i64 0, .int .i64 0, .int .i64 0, .int .i64 0, .slice none 0 0] 33) = W at *
  refine (stamps_Clone A n c m.ov W ((HR.out.below hB).more hB.size) HA.out hn).mono ?_
  rintro x w1 ⟨v1, rfl, O1, b1⟩
  replace B1 := B1.below b1 (by omega)
  replace B2 := B2.below b1 (by omega)
  replace hB := hB.trans (b1.mono hB.size)
  obtain ⟨A9, c9, rfl, -, -, -⟩ := own_form O1
  have O := Lib.hid O1
  clear O1 b1
  have f1 := B1.frozen
  have f2 := B2.frozen
  have C2 := B2.cell
  have q0 : w1.cell? ⟨w.heap.size, 0, none⟩ = some (.int .i64 m.tab) := B1.cell 0
  have q1 : w1.cell? ⟨w.heap.size, 1, none⟩ = some (.int .i64 m.kind) := B1.cell 1
  have q2 : w1.cell? ⟨w.heap.size, 2, none⟩ = some (.string m.key) := B1.cell 2
  have q3 : w1.cell? ⟨w.heap.size, 3, none⟩ = some (.string m.en) := B1.cell 3
  have q4 : w1.cell? ⟨w.heap.size, 4, none⟩ = some (.string m.val) := B1.cell 4
  have q5 : w1.cell? ⟨w.heap.size, 5, none⟩ = some (.int .i64 m.exp) := B1.cell 5
  have q6 : w1.cell? ⟨w.heap.size, 6, none⟩ = some (.int .i64 m.at_.1) := B1.cell 6
  have q7 : w1.cell? ⟨w.heap.size, 7, none⟩ = some (.int .i64 m.at_.2.1) := B1.cell 7
  have q8 : w1.cell? ⟨w.heap.size, 8, none⟩ = some (.int .i64 m.at_.2.2) := B1.cell 8
  have q9 : w1.cell? ⟨w.heap.size, 9, none⟩ = some (.slice A n c) := B1.cell 9
  go_wp2_with fail
  (try simp only [Exit.inBlock, Exit.then])
  have zz := (((((((((((B2.far (p := ⟨w.heap.size, 9, none⟩) (show w.heap.size + 1 ≠ w.heap.size by omega) (.slice A9 m.ov.length c9)).set_ 0 (.int .i64 m.tab)).set_ 1 (.int .i64 m.kind)).set_ 2 (.string m.key)).set_ 3 (.string m.en)).set_ 4 (.string m.val)).set_ 5 (.int .i64 m.exp)).set_ 6 (.int .i64 m.at_.1)).set_ 7 (.int .i64 m.at_.2.1)).set_ 8 (.int .i64 m.at_.2.2)).set_ 9 (.slice A9 m.ov.length c9)).cell
  simp at zz
  refine bodyPost_ret (v := .agg (mutC m (.slice A9 m.ov.length c9))) (by simp [results, Try.results23, go_sem, zz, mutC]) rfl ⟨_, rfl, ?_, ?_⟩
  · exact own_base (World.ownsRow.kept (World.ownsRow.kept O.out (only_set w1 w.heap.size 9 (.slice A9 m.ov.length c9)) (.inr (fun e => by have := (World.ownsRow.lt O.out _ e).1; omega))) (grown_trans' (grown_trans' (grown_trans' (grown_trans' (grown_trans' (grown_trans' (grown_trans' (grown_trans' (grown_trans' (only_set _ (w.heap.size + 1) 0 _) (only_set _ (w.heap.size + 1) 1 _)) (only_set _ (w.heap.size + 1) 2 _)) (only_set _ (w.heap.size + 1) 3 _)) (only_set _ (w.heap.size + 1) 4 _)) (only_set _ (w.heap.size + 1) 5 _)) (only_set _ (w.heap.size + 1) 6 _)) (only_set _ (w.heap.size + 1) 7 _)) (only_set _ (w.heap.size + 1) 8 _)) (only_set _ (w.heap.size + 1) 9 _)) (.inr (fun e => by have := (World.ownsRow.lt O.out _ e).1; omega))) (by omega)
  · exact (((((((((((hB.setCell (p := ⟨w.heap.size, 9, none⟩) (Nat.le_refl _) _).setCell (p := ⟨w.heap.size + 1, 0, none⟩) (show w.heap.size ≤ w.heap.size + 1 by omega) _).setCell (p := ⟨w.heap.size + 1, 1, none⟩) (show w.heap.size ≤ w.heap.size + 1 by omega) _).setCell (p := ⟨w.heap.size + 1, 2, none⟩) (show w.heap.size ≤ w.heap.size + 1 by omega) _).setCell (p := ⟨w.heap.size + 1, 3, none⟩) (show w.heap.size ≤ w.heap.size + 1 by omega) _).setCell (p := ⟨w.heap.size + 1, 4, none⟩) (show w.heap.size ≤ w.heap.size + 1 by omega) _).setCell (p := ⟨w.heap.size + 1, 5, none⟩) (show w.heap.size ≤ w.heap.size + 1 by omega) _).setCell (p := ⟨w.heap.size + 1, 6, none⟩) (show w.heap.size ≤ w.heap.size + 1 by omega) _).setCell (p := ⟨w.heap.size + 1, 7, none⟩) (show w.heap.size ≤ w.heap.size + 1 by omega) _).setCell (p := ⟨w.heap.size + 1, 8, none⟩) (show w.heap.size ≤ w.heap.size + 1 by omega) _).setCell (p := ⟨w.heap.size + 1, 9, none⟩) (show w.heap.size ≤ w.heap.size + 1 by omega) _)
end Go.Proofs.Ytfkooohnaodjmaa
