/- The walk of the law RunesCuts: it returns true, and nothing that was there ahead of the call has turned. Condition: the tables of unicode/utf8 lie as they are laid. -/
import Derived.Test.YtfebncpfhdgkpaaDoorRnF
import Derived.Test.YtfebncpfhdgkpaaDoorRnI
namespace Go.Proofs.YtfebncpfhdgkpaaDoor
open Go.RowKit Go.Sort Go.Lib

set_option maxRecDepth 100000 in
set_option maxHeartbeats 2000000 in
theorem runes_cuts_walk (w : World) (hT : Tabs w) (s : ByteArray) (hs : s.size ≤ maxLen) (n : Int) : Calls Tryd.prog 4 #[.string s, .int .i64 n] w fun e w' => e = .returned (.bool true) ∧ Below w.heap.size w w' := by
  unfold maxLen at hs
  by_cases hbig : 2000 < s.size
  · have hd : decide (2000 < (s.size : Int)) = true := by simp; omega
    clear hT
    go_enter Tryd.func4, Tryd.ntmps4
    go_wp2_with fail
    go_ret
    exact ⟨rfl, Below.refl _ _⟩
  have hd : decide (2000 < (s.size : Int)) = false := by simp; omega
  have HT := Lib.hid hT
  have hpc := prs_cut s n.toNat 0 (Nat.zero_le _)
  have hcl := (cutP_le s n.toNat 0 (Nat.zero_le _)).2
  have hcs : (s.extract 0 (cutP s n.toNat 0)).size = cutP s n.toNat 0 := by rw [ByteArray.size_extract]; omega
  have hpt := prs_tail s (cutP s n.toNat 0)
  have hpl := prs_len s 0
  have hrl := rest_prs s 0
  have hC1 := runes_Cut s n (by omega) w
  have hC2 := fun w h => ref01_Cut s n (by omega) w h
  generalize cutP s n.toNat 0 = p at *
  obtain ⟨c, hc⟩ : ∃ c, s.extract 0 p = c := ⟨_, rfl⟩
  rw [hc] at hpc hcs hC1 hC2
  have HC1 := Lib.hid hC1
  have HC2 := Lib.hid hC2
  have HPC := Lib.hid hpc
  have HPT := Lib.hid hpt
  have HRL := Lib.hid hrl
  have HPL := Lib.hid hpl
  clear hT hC1 hC2 hpc hpt hrl hpl hc
  go_enter Tryd.func4, Tryd.ntmps4
  go_wp2_with fail
  refine HC1.out.mono ?_
  clear HC1
  rintro e w1 ⟨rfl, hB⟩
  go_wp2_with fail
  refine (HC2.out w1 (HT.out.below hB)).mono ?_
  clear HC2
  rintro e w2 ⟨rfl, b2⟩
  replace hB := hB.trans (b2.mono hB.size)
  clear b2
  go_wp2_with fail
  refine (runes_Count s (by omega) w2).mono ?_
  rintro e w3 ⟨rfl, b3⟩
  replace hB := hB.trans (b3.mono hB.size)
  clear b3
  have hcv := run_runes_of_string (P := Tryd.prog) w3 9 29 21 s Tryd.underlying9 Tryd.underlying29 Tryd.underlying21 (by rw [runes_all, HRL.out]; have := HPL.out; simp; omega)
  rw [runes_all, HRL.out] at hcv
  simp only [List.size_toArray, List.length_map] at hcv
  obtain ⟨C, hCC⟩ : ∃ C, (prs s 0).length = C := ⟨_, rfl⟩
  have HCC := Lib.hid hCC
  rw [hCC] at hcv ⊢
  clear hCC
  have hne : ((C : Int) != (C : Int)) = false := by simp
  generalize ((((prs s 0).map (·.1)).map fun r : Nat => Value.int .i32 (r : Int)).toArray ++ Array.replicate (grownCap w3 C 0 21 - C) (Value.int .i32 0)) = arr at hcv
  generalize grownCap w3 C 0 21 = cap at hcv
  replace hB := below_drewN (hB.alloc hB.size (.cells arr 21)) 1
  have k1 := fun d os => Calls.regrown_of (runes_Count c (by omega) (grow (redrawn ((w3.alloc (.cells arr 21)).drew) d) os))
  have k2 := fun d os => Calls.regrown_of (runes_Count (s.extract p s.size) (by rw [ByteArray.size_extract]; omega) (grow (redrawn ((w3.alloc (.cells arr 21)).drew) d) os))
  have k3 := fun d os => Calls.regrown_of (runes_Count s (by omega) (grow (redrawn ((w3.alloc (.cells arr 21)).drew) d) os))
  have k4 := fun d os => Calls.regrown_of (alive01 (grow (redrawn ((w3.alloc (.cells arr 21)).drew) d) os) (HT.out.below (hB.trans ((below_regrown _ d os).mono hB.size))))
  rw [HPT.out] at k2
  rw [HCC.out] at k3
  have hsum := HPC.out
  rw [HCC.out] at hsum
  have hCb : C ≤ 2000 := by have := HPL.out; rw [HCC.out] at this; omega
  generalize (prs c 0).length = a at *
  generalize (prs s p).length = b at *
  have hw1 : IntKind.i64.wrap ((a : Int) + (b : Int)) = (C : Int) := by rw [IntKind.wrap_i64]; omega
  have heq : ((C : Int) == (C : Int)) = true := by simp
  have hp0 : (0 : Int) ≤ p := by omega
  subst hcs
  clear HPC HPT HRL HPL HCC hsum
  go_upto_region 6 with fail
  change Below w.heap.size w ((w3.alloc (.cells arr 21)).drew) at hB
  generalize (w3.alloc (.cells arr 21)).drew = w4 at *
  refine wp_region_quiet_below (by kernel_rfl) (by kernel_rfl) ?_
  repeat (go_big_quiet_step (first | with_reducible exact k1 _ _ | with_reducible exact k2 _ _ | with_reducible exact k3 _ _ | with_reducible exact k4 _ _))
  refine wpQuiet_nil ?_
  intro _ hw'
  obtain ⟨⟨dq, osq⟩, hw''⟩ := hw'
  subst hw''
  replace hB := hB.trans ((below_regrown w4 dq osq).mono hB.size)
  clear k1 k2 k3 k4
  go_wp2_with fail
  go_ret
  exact ⟨rfl, hB⟩
end Go.Proofs.YtfebncpfhdgkpaaDoor
