/- The example of the chapter on folding. -/
import Derived.Test.YtfkooohnaodjmaaFolS
namespace Go.Proofs.Ytfkooohnaodjmaa
open Go.RowKit Go.Sort

theorem ex1 : natC ⟨#[78, 57]⟩ ⟨#[110, 49, 48]⟩ < 0 := by decide +kernel
theorem ex2 : natC ⟨#[110, 49]⟩ ⟨#[110, 49, 48]⟩ < 0 := by decide +kernel
theorem ex3 : natC ⟨#[110, 49]⟩ ⟨#[78, 57]⟩ < 0 := by decide +kernel
theorem ex4 : sameF ⟨#[65, 98]⟩ ⟨#[97, 66]⟩ = true := by decide +kernel

set_option maxRecDepth 100000 in
set_option maxHeartbeats 1000000 in
theorem texts_same (A1 A2 : Option Addr) (n c1 c2 : Nat) (l : List ByteArray) (w : World) (h1 : Reads w w.heap.size 1 A1 n (l.map Value.string)) (h2 : Reads w w.heap.size 1 A2 n (l.map Value.string)) (hm : n ≤ 1000000000) :
    Calls Try.prog 16 #[.slice A1 n c1, .slice A2 n c2] w fun e w' => e = .returned (.bool true) ∧ Below w.heap.size w w' := by
  have hn : l.length = n := by have := h1.1; simpa using this
  have H1 := Lib.hid h1
  have H2 := Lib.hid h2
  have HN := Lib.hid hn
  clear h1 h2 hn
  have hnn : ((n : Int) != (n : Int)) = false := by simp
  go_enter Try.func16, Try.ntmps16
  go_wp2_with fail
  go_loopw [13] (fun v13 wr => ∃ k m : Nat, v13 = .int .i64 k ∧ k ≤ n ∧ wr = w.drewN m) (fun v13 _ => n - (intOf v13).toNat)
  case atStart => exact ⟨0, 0, rfl, Nat.zero_le _, rfl⟩
  case round =>
    obtain ⟨k, m, rfl, hk, rfl⟩ := hrel
    by_cases hkn : k < n
    · have kl : k < l.length := by have := HN.out; omega
      obtain ⟨b1, o1, rfl, _, hc1⟩ := Reads.form H1.out (by omega)
      obtain ⟨b2, o2, rfl, _, hc2⟩ := Reads.form H2.out (by omega)
      obtain ⟨x, hx⟩ : ∃ x, l[k]'kl = x := ⟨_, rfl⟩
      have hg : (l.map Value.string)[k]? = some (.string x) := by rw [List.getElem?_map, List.getElem?_eq_getElem kl, hx]; rfl
      have p0 : ∀ m, (w.drewN m).cell? ⟨b1, o1 + k, none⟩ = some (.string x) := fun _ => hc1 k _ hg
      have q0 : ∀ m, (w.drewN m).cell? ⟨b2, o2 + k, none⟩ = some (.string x) := fun _ => hc2 k _ hg
      clear hc1 hc2 hx hg
      go_wp2_with fail
      go_quiet (fail)
      go_wp2_with fail
      go_roundw
      case rel => exact ⟨k + 1, _, by go_num, by omega, rfl⟩
      case measure => simp [intOf]; omega
    · have hkn : k = n := by omega
      subst hkn
      go_wp2_with fail
      go_ret
      exact ⟨rfl, below_drewN (Below.refl _ _) _⟩

theorem reads_blk3 {w : World} {g : Nat} {T : TypeId} {x y z : ByteArray} (h : Blk w g T #[.string x, .string y, .string z]) : Reads w w.heap.size 1 (some ⟨g, 0, none⟩) 3 ([x, y, z].map Value.string) :=
  ⟨rfl, fun _ => ⟨_, rfl, h.lt, fun j u hu => by rw [add_lit, Nat.zero_add, h.cell j, ← Array.getElem?_toList]; exact hu⟩⟩

set_option maxRecDepth 100000 in
set_option maxHeartbeats 2000000 in
theorem law39_alive (w : World) : Calls Try.prog 19 #[] w fun e w' => e = .returned (.bool true) ∧ Below w.heap.size w w' := by
  have x1 := ex1
  have x2 := ex2
  have x3 := ex3
  have x4 := ex4
  have bA := (Below.refl w.heap.size w).alloc (Nat.le_refl _) (.cells #[.string ⟨#[110, 49, 48]⟩, .string ⟨#[78, 57]⟩, .string ⟨#[110, 49]⟩] 9)
  have HS := Lib.hid (fold_Sort3 ⟨#[110, 49, 48]⟩ ⟨#[78, 57]⟩ ⟨#[110, 49]⟩ ⟨w.heap.size, 0, none⟩ 3 _ (reads_blk3 (Blk.new w 9 #[.string ⟨#[110, 49, 48]⟩, .string ⟨#[78, 57]⟩, .string ⟨#[110, 49]⟩])) (by decide) (by decide) (by decide) x1 x2 x3)
  have HF := Lib.hid (fun W => fold_Same ⟨#[65, 98]⟩ ⟨#[97, 66]⟩ (by decide) (by decide) W)
  rw [x4] at HF
  clear x1 x2 x3 x4
  go_enter Try.func19, Try.ntmps19
  go_wp2_with fail
  refine HS.out.mono ?_
  rintro e w1 ⟨g, c, rfl, o1, b1⟩
  have hB1 := bA.trans (b1.mono bA.size)
  have bU := (Below.refl w1.heap.size w1).alloc (Nat.le_refl _) (.cells #[.string ⟨#[110, 49]⟩, .string ⟨#[78, 57]⟩, .string ⟨#[110, 49, 48]⟩] 9)
  have HR2 := Lib.hid (Reads.of_own (o1.below bU))
  have HR3 := Lib.hid (reads_blk3 (Blk.new w1 9 #[.string ⟨#[110, 49]⟩, .string ⟨#[78, 57]⟩, .string ⟨#[110, 49, 48]⟩]))
  have hB2 := hB1.trans (bU.mono hB1.size)
  clear o1 HS
  go_wp2_with fail
  refine (texts_same _ _ 3 c 3 _ _ HR2.out HR3.out (by omega)).mono ?_
  rintro e w2 ⟨rfl, b2⟩
  have hB3 := hB2.trans (b2.mono hB2.size)
  go_wp2_with fail
  refine (HF.out w2).mono ?_
  rintro e w3 ⟨rfl, b3⟩
  go_wp2_with fail
  go_ret
  exact ⟨rfl, hB3.trans (b3.mono hB3.size)⟩
end Go.Proofs.Ytfkooohnaodjmaa
