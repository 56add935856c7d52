/- Contract of slices.Clone at bytes: a row of the call's own with the same bytes. At most 2^47 bytes. -/
import Derived.Test.YtedegdojbhegdaaOwn
namespace Go.Proofs.Ytedegdojbhegdaa
open Go.RowKit Go.Sort

/-- The call hands back a slice of its own with the bytes l; nothing that was there has turned. -/
def Fresh (w : World) (l : List UInt8) (e : Ending) (w' : World) : Prop := ∃ v', e = .returned v' ∧ Own w' w.heap.size v' l ∧ Below w.heap.size w w'

theorem below_of_grown_nil {w w' : World} (h : w.grownBy w' none) : Below w.heap.size w w' := ⟨h.os, h.tape, h.output, h.size, fun k hk => h.block k hk (by simp)⟩
theorem below_of_grown {B : Nat} {a w w' : World} {v : Value} (hb : Below B a w) (hB : B ≤ w.heap.size) (h : w.grownBy w' v.ownBlock) (hv : ∀ k, v.ownBlock = some k → B ≤ k) : Below B a w' :=
  hb.grown h hB hv

set_option maxRecDepth 100000 in
set_option maxHeartbeats 1000000 in
theorem bytes_Clone (A : Option Addr) (n c : Nat) (l : List UInt8) (w : World) (hr : Reads w w.heap.size 1 A n (l.map vb)) (hA : A = none → c = 0) (hlen : n ≤ 140737488355328) :
    Calls Try.prog 25 #[.slice A n c] w (Fresh w l) := by
  have hn := hr.len
  rcases A with _ | ad
  · have hc := hA rfl
    subst hc
    have h0 : n = 0 := by
      rcases Nat.eq_zero_or_pos n with h | h
      · exact h
      · obtain ⟨ad, h1, _⟩ := hr.2 h
        cases h1
    subst h0
    have hl := List.eq_nil_of_length_eq_zero hn
    subst hl
    clear hr hA hn
    have F : Hid (Fresh w [] (.returned (.slice none 0 0)) w) := Lib.hid ⟨_, rfl, Own.nil_ _ _, Below.refl _ _⟩
    have hq := fun (w : World) (a : Option Addr) (n c n' c' : Nat) => Lib.run_eql_slice_nil (P := Try.prog) w 37 5 a n c n' c' Try.underlying37
    go_enter Try.func25, Try.ntmps25
    go_wp2
    go_ret
    exact F.out
  · clear hA
    have HR := Lib.hid hr
    clear hr
    have hq := fun (w : World) (a : Option Addr) (n c n' c' : Nat) => Lib.run_eql_slice_nil (P := Try.prog) w 37 5 a n c n' c' Try.underlying37
    go_enter Try.func25, Try.ntmps25
    go_wp2_with (at_builtin; (refine append_bytes _ rfl _ _ rfl w.heap.size (.slice (some ⟨w.heap.size, 0, none⟩) 0 0) [] rfl (World.ownsRow_made w #[] 0 (Nat.le_refl _) (by decide) (by decide)) (some ad) n c l rfl ((HR.out.alloc (Nat.le_refl _) _).more (by simp)) (by simp; omega) (by simp) ?_); intro v' w1 hown hg hlies)
    go_ret
    refine ⟨v', rfl, hown, ?_⟩
    refine Below.grown ((Below.refl _ _).alloc (Nat.le_refl _) _) hg (by simp) ?_
    intro k hk
    have h5 : w.heap.size = k := by simpa [Value.ownBlock] using hk
    omega
end Go.Proofs.Ytedegdojbhegdaa
