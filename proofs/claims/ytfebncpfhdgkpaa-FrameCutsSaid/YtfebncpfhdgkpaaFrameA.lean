/- Plain law of records one behind the other; contract of frame.next. -/
import Derived.Test.YtfebncpfhdgkpaaRdrC
import Derived.Test.YtfebncpfhdgkpaaRdrT
namespace Go.Proofs.Ytfebncpfhdgkpaa
open Go.RowKit Go.Sort

/-- The record that begins bytes, how many bytes it takes, the fault. -/
def fr1 (l : List UInt8) : List UInt8 × Nat × Int := rText l 1048576 0
theorem fr1_ok (l : List UInt8) (h : (fr1 l).2.2 = 0) : ∃ v m, rNum l 0 = (v, m, 0) ∧ v ≤ 1048576 ∧ m + v ≤ l.length ∧ 0 < m ∧ (fr1 l).1 = (l.drop m).take v ∧ (fr1 l).2.1 = m + v := by
  obtain ⟨v, m, e, hq⟩ : ∃ v m e, rNum l 0 = (v, m, e) := ⟨_, _, _, rfl⟩
  obtain ⟨_, f2, _⟩ := rNum_facts l 0
  have f5 := (rnumF_facts l 0 0).2.2.2.2
  have hr : rNum l 0 = rnumF l 0 0 := rfl
  unfold fr1 rText at *
  rw [← hr] at f5
  rw [hq] at f2 f5 h ⊢
  simp only [] at f2 f5 h ⊢
  by_cases he : e = 0
  · subst he
    by_cases h1 : (1048576 : Int) < (v : Int)
    · rw [if_neg (by simp), if_pos h1] at h; simp at h
    by_cases h2 : l.length - m < v
    · rw [if_neg (by simp), if_neg h1, if_pos h2] at h; simp at h
    rw [if_neg (by simp), if_neg h1, if_neg h2]
    exact ⟨v, m, rfl, by omega, by omega, f5 rfl, rfl, rfl⟩
  · rw [if_pos he] at h
    exact absurd h he
theorem fr1_pos (l : List UInt8) (h : (fr1 l).2.2 = 0) : 0 < (fr1 l).2.1 ∧ (fr1 l).2.1 ≤ l.length ∧ (fr1 l).1.length ≤ (fr1 l).2.1 := by
  obtain ⟨v, m, _, _, h2, h3, h4, h5⟩ := fr1_ok l h
  rw [h4, h5, List.length_take, List.length_drop]
  omega

def frF : Nat → List UInt8 → List (List UInt8) × Nat
  | 0, _ => ([], 0)
  | f + 1, l => if l = [] ∨ (fr1 l).2.2 ≠ 0 then ([], 0) else ((fr1 l).1 :: (frF f (l.drop (fr1 l).2.1)).1, (fr1 l).2.1 + (frF f (l.drop (fr1 l).2.1)).2)
theorem frF_fuel : ∀ (f g : Nat) (l : List UInt8), l.length ≤ f → l.length ≤ g → frF f l = frF g l
  | 0, 0, _, _, _ => rfl
  | 0, g + 1, l, h, _ => by
    have : l = [] := List.eq_nil_of_length_eq_zero (by omega)
    subst this
    rfl
  | f + 1, 0, l, _, h => by
    have : l = [] := List.eq_nil_of_length_eq_zero (by omega)
    subst this
    rfl
  | f + 1, g + 1, l, h1, h2 => by
    unfold frF
    by_cases h : l = [] ∨ (fr1 l).2.2 ≠ 0
    · rw [if_pos h, if_pos h]
    · rw [if_neg h, if_neg h]
      have he : (fr1 l).2.2 = 0 := by
        rcases Classical.em ((fr1 l).2.2 = 0) with h3 | h3
        · exact h3
        · exact absurd (.inr h3) h
      obtain ⟨p1, p2, _⟩ := fr1_pos l he
      rw [frF_fuel f g (l.drop (fr1 l).2.1) (by rw [List.length_drop]; omega) (by rw [List.length_drop]; omega)]
/-- The records that are there wholly, and how many bytes they take. -/
def frA (l : List UInt8) : List (List UInt8) × Nat := frF l.length l
theorem frA_stop (l : List UInt8) (h : l = [] ∨ (fr1 l).2.2 ≠ 0) : frA l = ([], 0) := by
  unfold frA
  cases l with
  | nil => rfl
  | cons a r => exact if_pos h
theorem frA_step (l : List UInt8) (h0 : l ≠ []) (h : (fr1 l).2.2 = 0) : frA l = ((fr1 l).1 :: (frA (l.drop (fr1 l).2.1)).1, (fr1 l).2.1 + (frA (l.drop (fr1 l).2.1)).2) := by
  obtain ⟨p1, p2, _⟩ := fr1_pos l h
  have hx : ¬ (l = [] ∨ (fr1 l).2.2 ≠ 0) := by
    rintro (h1 | h1)
    · exact h0 h1
    · exact h1 h
  have e : frA l = frF (l.length - 1 + 1) l := by
    unfold frA
    have : 0 < l.length := List.length_pos_iff.2 h0
    rw [show l.length - 1 + 1 = l.length by omega]
  rw [e]
  unfold frF
  rw [if_neg hx]
  unfold frA
  rw [frF_fuel (l.length - 1) (l.drop (fr1 l).2.1).length _ (by rw [List.length_drop]; omega) (Nat.le_refl _)]
theorem frA_le (l : List UInt8) : ∀ f, l.length ≤ f → (frF f l).2 ≤ l.length := by
  intro f
  induction f generalizing l with
  | zero => intro _; exact Nat.zero_le _
  | succ f ih =>
    intro h
    unfold frF
    split
    · exact Nat.zero_le _
    · rename_i hx
      have he : (fr1 l).2.2 = 0 := by
        rcases Classical.em ((fr1 l).2.2 = 0) with h3 | h3
        · exact h3
        · exact absurd (.inr h3) hx
      obtain ⟨p1, p2, _⟩ := fr1_pos l he
      have := ih (l.drop (fr1 l).2.1) (by rw [List.length_drop]; omega)
      rw [List.length_drop] at this
      show (fr1 l).2.1 + _ ≤ _
      omega

theorem Reads.part {w : World} {B n : Nat} {A : Option Addr} {L : List UInt8} (h : Reads w B 1 A n (L.map vb)) (lo v : Nat) (hlv : lo + v ≤ n) : Reads w B 1 (A.map (·.add lo)) v (((L.drop lo).take v).map vb) := by
  have hl := h.len
  refine ⟨by simp; omega, fun h0 => ?_⟩
  obtain ⟨ad, rfl, hb, hc⟩ := h.2 (by omega)
  refine ⟨ad.add lo, rfl, by rw [block_of_add]; exact hb, fun j u hu => ?_⟩
  rw [add_of_add]
  refine hc (lo + j) u ?_
  have hj := (List.getElem?_eq_some_iff.1 hu).1
  simp only [List.length_map, List.length_take, List.length_drop] at hj
  rw [List.getElem?_map, List.getElem?_take_of_lt (by omega), List.getElem?_drop] at hu
  rw [List.getElem?_map]
  exact hu
/-- What next hands back. -/
def NextP (w : World) (B : Nat) (l : List UInt8) (e : Ending) (w' : World) : Prop :=
  Below w.heap.size w w' ∧ ((fr1 l).2.2 = 0 → ∃ A', e = .returned (.tuple #[.slice A' (fr1 l).1.length (fr1 l).1.length, .int .i64 ((fr1 l).2.1 : Nat), .bool true]) ∧ Reads w B 1 A' (fr1 l).1.length ((fr1 l).1.map vb)) ∧
    ((fr1 l).2.2 ≠ 0 → e = .returned (.tuple #[.slice none 0 0, .int .i64 0, .bool false]))

set_option maxRecDepth 100000 in
set_option maxHeartbeats 2000000 in
theorem frame_next (A : Option Addr) (n c : Nat) (l : List UInt8) (w : World) (hr : Reads w w.heap.size 1 A n (l.map vb)) (hnc : n ≤ c) (hn : n ≤ 140737488355400) :
    Calls Try.prog 78 #[.slice A n c] w (NextP w w.heap.size l) := by
  have hlen := hr.len
  obtain ⟨v, m, e0, hq⟩ : ∃ v m e0, rNum l 0 = (v, m, e0) := ⟨_, _, _, rfl⟩
  obtain ⟨f1, f2, f3⟩ := rNum_facts l 0
  have RD : Rd (w.alloc (.cells #[.slice A n c, .int .i64 0, .int .i64 0] 114)) w.heap.size A n c l 0 0 := ⟨Blk.new _ _ _, (hr.alloc (Nat.le_refl _) _), Nat.zero_le _, by omega, hnc⟩
  have hB : Below w.heap.size w (w.alloc (.cells #[.slice A n c, .int .i64 0, .int .i64 0] 114)) := (Below.refl _ _).alloc (Nat.le_refl _) _
  have hC := reader_Count _ _ A n c l 0 0 1048576 RD
  rw [List.drop_zero] at hC
  have hfr : fr1 l = rText l 1048576 0 := rfl
  unfold rText at hfr
  unfold rCount at hC
  rw [hq] at f1 f2 f3 hC hfr
  simp only [Nat.zero_add] at f1 f2 f3 hC hfr
  rw [hlen] at f2 hfr
  clear RD
  go_enter Try.func78, Try.ntmps78
  go_wp2_with fail
  refine (wire_New A n c w).mono ?_
  rintro e w1 ⟨rfl, rfl⟩
  generalize w.alloc (.cells #[.slice A n c, .int .i64 0, .int .i64 0] 114) = W at *
  by_cases hbad : e0 ≠ 0 ∨ (1048576 : Int) < (v : Int)
  · have hc2 : ∃ why : Int, why ≠ 0 ∧ ((if e0 = 0 ∧ (1048576 : Int) < (v : Int) then ((0 : Nat), (0 : Nat), (31 : Int)) else (v, m, e0)) = (0, 0, why)) ∧ (fr1 l).2.2 = why := by
      by_cases he : e0 = 0
      · have h1 : (1048576 : Int) < (v : Int) := by
          rcases hbad with h | h
          · exact absurd he h
          · exact h
        subst he
        rw [if_neg (by simp), if_pos h1] at hfr
        exact ⟨31, by decide, by rw [if_pos ⟨rfl, h1⟩], by rw [hfr]⟩
      · obtain ⟨rfl, rfl⟩ := f3 he
        rw [if_pos he] at hfr
        exact ⟨e0, he, by rw [if_neg (fun h => he h.1)], by rw [hfr]⟩
    obtain ⟨why, hw, he, hf⟩ := hc2
    rw [he] at hC
    simp only [] at hC
    have HC := Lib.hid hC
    have HF := Lib.hid hf
    clear hC hf he hfr f1 f2 f3 hbad hq hr
    go_wp2_with fail
    refine HC.out.mono ?_
    rintro e w2 ⟨rfl, R2, G2⟩
    replace hB := Below.grown hB G2 hB.size (fun q hq => by injection hq with hq; omega)
    have hwd : (why != 0) = true := by simp [hw]
    have HW := Lib.hid hw
    clear hw HC
    go_wp2_with fail
    refine (reader_Why _ _ A n c l _ why R2).mono ?_
    rintro e w3 ⟨rfl, rfl⟩
    clear R2 G2
    go_wp2_with fail
    go_ret3
    exact ⟨hB, fun h => absurd (HF.out.symm.trans h) HW.out, fun _ => rfl⟩
  · have he : e0 = 0 := by
      rcases Classical.em (e0 = 0) with h | h
      · exact h
      · exact absurd (.inl h) hbad
    subst he
    have hv : ¬ (1048576 : Int) < (v : Int) := fun h => hbad (.inr h)
    rw [if_neg (by simp), if_neg hv] at hfr
    rw [if_neg (fun h => hv h.2)] at hC
    simp only [] at hC
    have hR2 : ∀ (_ : n - m < v), (fr1 l).2.2 ≠ 0 := by
      intro h
      rw [hfr, if_pos h]
      decide
    have hR3 : ∀ (_ : ¬ n - m < v), fr1 l = ((l.drop m).take v, m + v, 0) := by
      intro h
      rw [hfr, if_neg h]
    have HC := Lib.hid hC
    have H2 := Lib.hid hR2
    have H3 := Lib.hid hR3
    have HRd := Lib.hid hr
    have HLn := Lib.hid hlen
    clear hC hR2 hR3 hfr f1 f3 hbad hq hr
    go_wp2_with fail
    refine HC.out.mono ?_
    rintro e w2 ⟨rfl, R2, G2⟩
    replace hB := Below.grown hB G2 hB.size (fun q hq => by injection hq with hq; omega)
    clear HC G2
    go_wp2_with fail
    refine (reader_Why _ _ A n c l _ 0 R2).mono ?_
    rintro e w3 ⟨rfl, rfl⟩
    go_wp2_with fail
    refine (reader_Left _ _ A n c l _ 0 R2).mono ?_
    rintro e w4 ⟨rfl, dm, rfl⟩
    by_cases hl : n - m < v
    · have hd : decide (((n - m : Nat) : Int) < (v : Int)) = true := by simp; omega
      clear R2
      go_wp2_with fail
      go_ret3
      exact ⟨below_drewN hB _, fun h => absurd h (H2.out hl), fun _ => rfl⟩
    · have hd : decide (((n - m : Nat) : Int) < (v : Int)) = false := by simp; omega
      have hfr := H3.out hl
      go_wp2_with fail
      refine (reader_Left _ _ A n c l _ 0 (R2.drewN dm)).mono ?_
      rintro e w5 ⟨rfl, dm2, rfl⟩
      have s0 : IntKind.i64.wrap ((n : Int) - ((n - m : Nat) : Int)) = (m : Int) := by rw [IntKind.wrap_i64]; omega
      have s1 : IntKind.i64.wrap ((m : Int) + (v : Int)) = (m : Int) + v := by rw [IntKind.wrap_i64]; omega
      have s2 : 0 ≤ (m : Int) + v := by omega
      have s3 : (m : Int) + v ≤ c := by omega
      have hl1 : (fr1 l).1.length = v := by rw [hfr]; simp; omega
      have hl2 : (((fr1 l).2.1 : Nat) : Int) = (m : Int) + v := by rw [hfr]; simp
      have h22 : (fr1 l).2.2 = 0 := by rw [hfr]
      have hRP : Reads w w.heap.size 1 (A.map (·.add m)) v ((fr1 l).1.map vb) := by rw [hfr]; exact HRd.out.part m v (by omega)
      have hR0 : v = 0 → Reads w w.heap.size 1 A v ((fr1 l).1.map vb) := by
        intro h
        subst h
        exact ⟨by simpa using hl1, fun h => absurd h (by omega)⟩
      have F := Lib.hid (And.intro hl1 (And.intro hl2 (And.intro h22 (And.intro hRP hR0))))
      clear hfr hl1 hl2 h22 hRP hR0 H3 H2 R2
      go_wp2_with fail
      all_goals
        go_ret3
        obtain ⟨hl1, hl2, h22, hRP, hR0⟩ := F.out
        refine ⟨below_drewN hB _, fun _ => ?_, fun h => absurd h22 h⟩
        rw [hl1, hl2]
        first
          | exact ⟨_, rfl, hRP⟩
          | (have hv0 : v = 0 := by omega
             subst hv0
             exact ⟨_, rfl, hR0 rfl⟩)
end Go.Proofs.Ytfebncpfhdgkpaa
