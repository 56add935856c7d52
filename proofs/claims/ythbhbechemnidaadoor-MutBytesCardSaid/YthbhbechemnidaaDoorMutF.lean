/- Contract of slices.Clone over stamps. -/
import Derived.Test.YthbhbechemnidaaDoorMutE
import Derived.Test.YthbhbechemnidaaDoorRows2
import Derived.Lib.SliceRun
namespace Go.Proofs.YthbhbechemnidaaDoor
open Go.RowKit Go.Sort

theorem info_stampM : (Tryd.prog.info? 32).map (fun i => (i.zero, i.size, i.bytes)) = some (some (.agg #[.int .i64 0, .int .i64 0, .int .i64 0]), 3, 24) := by kernel_rfl
theorem sc_one (l : List (Int × Int × Int)) : ∀ u ∈ l.flatMap sc, u.oneCell' = true := by
  intro u hu
  obtain ⟨t, _, hu⟩ := List.mem_flatMap.1 hu
  simp only [sc, List.mem_cons, List.mem_nil_iff, or_false] at hu
  rcases hu with rfl | rfl | rfl <;> rfl
/-- A row of stamps that the call owns. -/
def OwnSt (w : World) (base : Nat) (v : Value) (S : List (Int × Int × Int)) : Prop := w.ownsRow base 32 3 v S.length (S.flatMap sc)
def FreshSt (w : World) (l : List (Int × Int × Int)) (e : Ending) (w' : World) : Prop := ∃ v', e = .returned v' ∧ OwnSt w' w.heap.size v' l ∧ Below w.heap.size w w'

set_option maxRecDepth 100000 in
set_option maxHeartbeats 1000000 in
theorem stamps_Clone (A : Option Addr) (n c : Nat) (l : List (Int × Int × Int)) (w : World) (hr : Reads w w.heap.size 3 A n (l.flatMap sc)) (hA : A = none → c = 0) (hlen : n ≤ 1000000000) :
    Calls Tryd.prog 66 #[.slice A n c] w (FreshSt w l) := by
  have hn := stamps_n hr
  rcases A with _ | ad
  · have hc := hA rfl
    subst hc
    have h0 : n = 0 := by
      rcases Nat.eq_zero_or_pos n with h | h
      · exact h
      · obtain ⟨ad, h1, _⟩ := hr.2 h
        cases h1
    subst h0
    have hl := List.eq_nil_of_length_eq_zero hn
    subst hl
    clear hr hA hn
    have F : Hid (FreshSt w [] (.returned (.slice none 0 0)) w) := Lib.hid ⟨_, rfl, World.ownsRow_nil _ _ _ _, Below.refl _ _⟩
    have hq := fun (w : World) (a : Option Addr) (n c n' c' : Nat) => Lib.run_eql_slice_nil (P := Tryd.prog) w 33 32 a n c n' c' Tryd.underlying33
    go_enter Tryd.func66, Tryd.ntmps66
    go_wp2
    go_ret
    exact F.out
  · clear hA
    have HR := Lib.hid hr
    clear hr
    have hq := fun (w : World) (a : Option Addr) (n c n' c' : Nat) => Lib.run_eql_slice_nil (P := Tryd.prog) w 33 32 a n c n' c' Tryd.underlying33
    obtain ⟨i0, hi, hz0, hz1, hz2⟩ := info_parts info_stampM
    have HI := Lib.hid (And.intro hi (And.intro hz0 (And.intro hz1 hz2)))
    have HN := Lib.hid hn
    clear hi hz0 hz1 hz2 hn
    go_enter Tryd.func66, Tryd.ntmps66
    go_wp2_with (at_builtin; go_must (refine wpList_append_any _ rfl _ _ 33 rfl w.heap.size 32 i0 (.agg #[.int .i64 0, .int .i64 0, .int .i64 0]) 3 24 Tryd.underlying33 HI.out.1 HI.out.2.1 HI.out.2.2.1 HI.out.2.2.2 rfl (by decide) (.slice (some ⟨w.heap.size, 0, none⟩) 0 0) 0 [] rfl (World.ownsRow_made w #[] 0 (Nat.le_refl _) (by decide) (by decide)) w.heap.size (some ad) n c (l.flatMap sc) rfl (HR.out.alloc (Nat.le_refl _) _) (sc_one _) (by unfold maxLen; omega) (by omega) (by simp) ?_); intro v' w1 hown hg hlies)
    go_ret
    refine ⟨v', rfl, ?_, ?_⟩
    · unfold OwnSt
      rw [Nat.zero_add, List.nil_append] at hown
      rw [HN.out]
      exact hown
    · refine Below.grown ((Below.refl _ _).alloc (Nat.le_refl _) _) hg (by simp) ?_
      intro k hk
      have h5 : w.heap.size = k := by simpa [Value.ownBlock] using hk
      omega

end Go.Proofs.YthbhbechemnidaaDoor
