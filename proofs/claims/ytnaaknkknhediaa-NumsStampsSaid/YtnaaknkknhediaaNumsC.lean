/- Contracts of nums.Stamp and of the reference's Stamp. No condition. -/
import Derived.Test.YtnaaknkknhediaaNumsB
namespace Go.Proofs.Ytnaaknkknhediaa
open Go.RowKit Go.Sort

/-- A number's digits. -/
def num (n : Int) : List UInt8 := dec (cut50 n).toNat
theorem num_length (n : Int) : (num n).length ≤ 16 := dec_length _ (by have := cut50_range n; omega)
def stampText (p l q : Int) : List UInt8 := num p ++ [46] ++ num l ++ [46] ++ num q

set_option maxRecDepth 100000 in
set_option maxHeartbeats 400000 in
theorem nums_Stamp (p l q : Int) (w : World) :
    Calls Try.prog 38 #[.agg #[.int .i64 p, .int .i64 l, .int .i64 q]] w fun e w' => e = .returned (.string ⟨(stampText p l q).toArray⟩) ∧ Below w.heap.size w w' := by
  have h1 := num_length p
  have h2 := num_length l
  have h3 := num_length q
  go_enter Try.func38, Try.ntmps38
  go_wp2
  generalize hW : w.alloc (.cells #[.int .i64 p, .int .i64 l, .int .i64 q] 51) = W
  have c0 : W.cell? ⟨w.heap.size, 0, none⟩ = some (.int .i64 p) := by rw [← hW]; simp [World.cell?_alloc_new]
  have c1 : W.cell? ⟨w.heap.size, 1, none⟩ = some (.int .i64 l) := by rw [← hW]; simp [World.cell?_alloc_new]
  have c2 : W.cell? ⟨w.heap.size, 2, none⟩ = some (.int .i64 q) := by rw [← hW]; simp [World.cell?_alloc_new]
  have hb : Below w.heap.size w W := by rw [← hW]; exact (Below.refl _ _).alloc (Nat.le_refl _) _
  have HB := Lib.hid hb
  clear hb hW
  have k0 := cell_regrown c0
  have k1 := cell_regrown c1
  have k2 := cell_regrown c2
  have cT : ∀ n d os, Calls Try.prog 20 #[.int .i64 n] (grow (redrawn W d) os) fun e w'' => e = .returned (.string ⟨(num n).toArray⟩) ∧ ∃ p : Regrown, w'' = grow (redrawn W p.d) p.os := fun n d os => Calls.regrown_of (nums_Text n _)
  refine wp_region_quiet_below (by kernel_rfl) (by kernel_rfl) ?_
  repeat (go_big_quiet_step (exact cT _ _ _))
  refine wpQuiet_nil ?_
  intro _ hw'
  obtain ⟨⟨dq, osq⟩, hw''⟩ := hw'
  subst hw''
  go_wp2
  go_ret
  exact ⟨ret_str (by simp only [ByteArray.mk_append_mk, stampText]), below_regrown_of HB.out HB.out.size _ _⟩
set_option maxRecDepth 100000 in
set_option maxHeartbeats 400000 in
theorem ref02_Stamp (p l q : Int) (w : World) :
    Calls Try.prog 39 #[.agg #[.int .i64 p, .int .i64 l, .int .i64 q]] w fun e w' => e = .returned (.string ⟨(stampText p l q).toArray⟩) ∧ Below w.heap.size w w' := by
  have h1 := num_length p
  have h2 := num_length l
  have h3 := num_length q
  go_enter Try.func39, Try.ntmps39
  go_wp2
  generalize hW : w.alloc (.cells #[.int .i64 p, .int .i64 l, .int .i64 q] 51) = W
  have c0 : W.cell? ⟨w.heap.size, 0, none⟩ = some (.int .i64 p) := by rw [← hW]; simp [World.cell?_alloc_new]
  have c1 : W.cell? ⟨w.heap.size, 1, none⟩ = some (.int .i64 l) := by rw [← hW]; simp [World.cell?_alloc_new]
  have c2 : W.cell? ⟨w.heap.size, 2, none⟩ = some (.int .i64 q) := by rw [← hW]; simp [World.cell?_alloc_new]
  have hb : Below w.heap.size w W := by rw [← hW]; exact (Below.refl _ _).alloc (Nat.le_refl _) _
  have HB := Lib.hid hb
  clear hb hW
  have k0 := cell_regrown c0
  have k1 := cell_regrown c1
  have k2 := cell_regrown c2
  have cT : ∀ n d os, Calls Try.prog 21 #[.int .i64 n] (grow (redrawn W d) os) fun e w'' => e = .returned (.string ⟨(num n).toArray⟩) ∧ ∃ p : Regrown, w'' = grow (redrawn W p.d) p.os :=
    fun n d os => Calls.regrown_of ((ref02_Text n _).mono fun _ _ ⟨h, e⟩ => ⟨h, e ▸ Below.refl _ _⟩)
  refine wp_region_quiet_below (by kernel_rfl) (by kernel_rfl) ?_
  repeat (go_big_quiet_step (exact cT _ _ _))
  refine wpQuiet_nil ?_
  intro _ hw'
  obtain ⟨⟨dq, osq⟩, hw''⟩ := hw'
  subst hw''
  go_wp2
  go_ret
  exact ⟨ret_str (by simp only [ByteArray.mk_append_mk, stampText]), below_regrown_of HB.out HB.out.size _ _⟩

theorem text_120 (w : World) : Calls Try.prog 20 #[.int .i64 120] w fun e w' => e = .returned (.string ⟨#[49, 50, 48]⟩) ∧ Below w.heap.size w w' :=
  (nums_Text 120 w).mono fun _ _ ⟨h, hb⟩ => ⟨by rw [h]; exact ret_str (by simp [cut50, dec, dig]), hb⟩
theorem stamp_3_0_12 (w : World) : Calls Try.prog 38 #[.agg #[.int .i64 3, .int .i64 0, .int .i64 12]] w fun e w' => e = .returned (.string ⟨#[51, 46, 48, 46, 49, 50]⟩) ∧ Below w.heap.size w w' :=
  (nums_Stamp 3 0 12 w).mono fun _ _ ⟨h, hb⟩ => ⟨by rw [h]; exact ret_str (by simp [stampText, num, cut50, dec, dig]), hb⟩

theorem alive02 (w : World) : Calls Try.prog 17 #[] w fun e w' => e = .returned (.bool true) ∧ Below w.heap.size w w' := by
  go_enter Try.func17, Try.ntmps17
  go_wp2_with (first
    | (go_at_call 20; refine (text_120 _).mono ?_; rintro e w1 ⟨rfl, hb1⟩)
    | (go_at_call 38; refine (stamp_3_0_12 _).mono ?_; rintro e w2 ⟨rfl, hb2⟩))
  go_ret
  exact ⟨rfl, hb1.trans (hb2.mono hb1.size)⟩
end Go.Proofs.Ytnaaknkknhediaa
