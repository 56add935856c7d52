/- Contracts of ring.sum, of the reference's place, of cmp.Compare over uint32, of the closures of the ring. -/
import Derived.Test.YtncdchhpdbmfcaaDoorRunes
import Derived.Test.YtncdchhpdbmfcaaDoorConv
import Derived.Test.YtncdchhpdbmfcaaDoorCmp
import Derived.Test.YtncdchhpdbmfcaaDoorMixK
import Derived.Laws.BitsAllLaws
import Derived.Deep.Cut
import Derived.Outline
namespace Go.Proofs.YtncdchhpdbmfcaaDoor
open Go.RowKit Go.Sort

/-- A text's place on the ring: by its runes and a number. -/
def hR (a r : Nat) : Nat := (a ^^^ r) * 16777619 % 4294967296
def hM (x : Nat) : Nat := (x ^^^ (x / 65536)) * 2246822507 % 4294967296
def hE (x : Nat) : Nat := x ^^^ (x / 8192)
def hS (n : Nat) : Nat := 2166136261 ^^^ (n * 2654435769 % 4294967296)
def hU (R : List Nat) (n : Nat) : Nat := hE (hM (R.foldl hR (hS n)))
theorem hR_lt (a r : Nat) : hR a r < 4294967296 := Nat.mod_lt _ (by decide)
theorem hS_lt (n : Nat) : hS n < 4294967296 := Nat.xor_lt_two_pow (n := 32) (by decide) (Nat.mod_lt _ (by decide))
theorem hM_lt (x : Nat) : hM x < 4294967296 := Nat.mod_lt _ (by decide)
theorem hE_lt (x : Nat) (h : x < 4294967296) : hE x < 4294967296 := Nat.xor_lt_two_pow (n := 32) h (by omega)
theorem hU_lt (R : List Nat) (n : Nat) : hU R n < 4294967296 := hE_lt _ (hM_lt _)

theorem x_start (n : Nat) : bits .xor .u32 2166136261 ((n * 2654435769 % 4294967296 : Nat) : Int) = ((hS n : Nat) : Int) := u32_xor_nat 2166136261 _ (by decide) (Nat.mod_lt _ (by decide))
theorem x_step (a r : Nat) (ha : a < 4294967296) (hr : r < 4294967296) : bits .xor .u32 (a : Int) (r : Int) * 16777619 % 4294967296 = ((hR a r : Nat) : Int) := by
  rw [u32_xor_nat a r ha hr]
  unfold hR
  omega
theorem x_mid (a : Nat) (ha : a < 4294967296) : bits .xor .u32 (a : Int) ((a : Int) / 65536) * 2246822507 % 4294967296 = ((hM a : Nat) : Int) := by
  rw [show (a : Int) / 65536 = ((a / 65536 : Nat) : Int) by omega, u32_xor_nat a _ ha (by omega)]
  unfold hM
  omega
theorem x_end (a : Nat) (ha : a < 4294967296) : bits .xor .u32 (a : Int) ((a : Int) / 8192) = ((hE a : Nat) : Int) := by
  rw [show (a : Int) / 8192 = ((a / 8192 : Nat) : Int) by omega, u32_xor_nat a _ ha (by omega)]
  rfl

set_option maxRecDepth 100000 in
set_option maxHeartbeats 2000000 in
theorem ring_sum (s : ByteArray) (n : Nat) (hn : n ≤ 1000) (w : World) : Calls Tryd.prog 28 #[.string s, .int .i64 n] w fun e w' => e = .returned (.int .u32 (hU (rest s 0) n : Nat)) ∧ Below w.heap.size w w' := by
  obtain ⟨U, hU0⟩ : ∃ U, hU (rest s 0) n = U := ⟨_, rfl⟩
  obtain ⟨R, hR0⟩ : ∃ R, rest s 0 = R := ⟨_, rfl⟩
  have HR := Lib.hid hR0
  rw [hR0] at hU0 ⊢
  rw [hU0]
  have HU := Lib.hid hU0
  have hnm : (n : Int) % 4294967296 = (n : Int) := by omega
  have hmul : (n : Int) * 2654435769 % 4294967296 = ((n * 2654435769 % 4294967296 : Nat) : Int) := by omega
  have hst := x_start n
  obtain ⟨a0, ha0⟩ : ∃ a, hS n = a := ⟨_, rfl⟩
  have hal := hS_lt n
  rw [ha0] at hst hal
  have HA0 := Lib.hid ha0
  have hst2 : bits .xor .u32 2166136261 ((n : Int) * 2654435769 % 4294967296) = (a0 : Int) := by rw [hmul]; exact hst
  clear hR0 hU0 ha0 hst hmul
  go_enter Tryd.func28, Tryd.ntmps28
  go_wp2_with fail
  clear hst2 hnm
  go_loopw [5, 7] (fun v5 _ wr => ∃ (k a : Nat), v5 = .int .u32 (a : Int) ∧ a < 4294967296 ∧ It wr w.heap.size s k ∧ Below w.heap.size w wr ∧ (rest s k).foldl hR a = R.foldl hR a0) (fun _ _ wr => s.size - wr.iterPos w.heap.size)
  case atStart => exact ⟨0, a0, rfl, hal, It.new _ _ _, below_iter (Below.refl _ _) (Nat.le_refl _) _ _, by rw [HR.out]⟩
  case round =>
    obtain ⟨k, a, rfl, ha, BI, hB, fA⟩ := hrel
    have hpos := BI.pos
    by_cases hk : k < s.size
    · obtain ⟨r, d, hD, hd1, hr, hcase⟩ := decode_some s k hk
      have hnx : ∀ ty, (Instr.next (.pointer (some ⟨w.heap.size, 0, none⟩)) true ty).run Tryd.prog wr = .ok (.tuple #[.bool true, .int .i64 k, .int .i32 r]) (wr.iterAt w.heap.size s (k + d)) := by
        intro ty
        rw [Lib.run_next_any_at wr _ s k ty BI hk, hD]
      rw [rest_cons s k hk hD hd1, List.foldl_cons] at fA
      have FA := Lib.hid fA
      have BI2 := BI.at_ (k + d)
      have hB2 := Lib.below_iterAt hB (k := w.heap.size) (Nat.le_refl _) s (k + d)
      have hrm : (r : Int) % 4294967296 = (r : Int) := by omega
      have hx := x_step a r ha (by omega)
      have HX := Lib.hid hx
      have la := hR_lt a r
      clear hcase hD fA
      go_wp2_with fail
      go_roundw
      case rel => exact ⟨k + d, hR a r, by rw [HX.out], la, BI2, hB2, FA.out⟩
      case measure => rw [BI2.pos, hpos]; omega
    · have hnx : ∀ ty, (Instr.next (.pointer (some ⟨w.heap.size, 0, none⟩)) true ty).run Tryd.prog wr = .ok (.tuple #[.bool false]) wr := fun ty => Lib.run_next_end_at wr _ s k ty BI hk
      rw [rest_end s k (by omega), List.foldl_nil] at fA
      have h1 := x_mid a ha
      have h2 := x_end (hM a) (hM_lt a)
      have hlm := hM_lt a
      have HF : Hid (hE (hM a) = U) := Lib.hid (by rw [← HU.out, hU, HA0.out, ← fA])
      obtain ⟨m, hm⟩ : ∃ m, hM a = m := ⟨_, rfl⟩
      rw [hm] at h1 h2 hlm HF
      clear hm fA
      have H2 := Lib.hid h2
      clear h2
      go_wp2_with fail
      go_ret
      exact ⟨ret_int (H2.out.trans (by rw [HF.out])), hB⟩

theorem rest_small (s : ByteArray) : ∀ n k, s.size - k ≤ n → ∀ r ∈ rest s k, r < 4294967296
  | n, k, h, x, hx => by
    by_cases hk : k < s.size
    · obtain ⟨r, d, hD, hd1, hr, hcase⟩ := decode_some s k hk
      rw [rest_cons s k hk hD hd1] at hx
      rcases List.mem_cons.1 hx with rfl | hx
      · omega
      · match n, h with
        | 0, h => omega
        | n + 1, h => exact rest_small s n (k + d) (by omega) x hx
    · rw [rest_end s k (by omega)] at hx
      cases hx

set_option maxRecDepth 100000 in
set_option maxHeartbeats 2000000 in
theorem ref20_place (s : ByteArray) (n : Nat) (hs : s.size ≤ 100000000) (w : World) : Calls Tryd.prog 37 #[.string s, .int .u32 n] w fun e w' => e = .returned (.int .u32 (hU (rest s 0) n : Nat)) ∧ Below w.heap.size w w' := by
  have hcv := conv_runes s (by omega)
  have HCC := Lib.hid (rnW_cell s w)
  have hB0 := rnW_below s w
  have hsz := rnW_size s w
  have hRl := rest_length s 0
  obtain ⟨U, hU0⟩ : ∃ U, hU (rest s 0) n = U := ⟨_, rfl⟩
  have hsm : ∀ r ∈ rest s 0, r < 4294967296 := fun r hr => by exact rest_small s _ 0 (Nat.le_refl _) r hr
  obtain ⟨R, hR0⟩ : ∃ R, rest s 0 = R := ⟨_, rfl⟩
  obtain ⟨m, hm⟩ : ∃ m, R.length = m := ⟨_, rfl⟩
  rw [hR0] at HCC hcv hRl hU0 hsm ⊢
  rw [hm] at hcv hRl
  rw [hU0]
  have HU := Lib.hid hU0
  have HM := Lib.hid hm
  have HSM := Lib.hid hsm
  have hmul : (n : Int) * 2654435769 % 4294967296 = ((n * 2654435769 % 4294967296 : Nat) : Int) := by omega
  have hst := x_start n
  obtain ⟨a0, ha0⟩ : ∃ a, hS n = a := ⟨_, rfl⟩
  have hal := hS_lt n
  rw [ha0] at hst hal
  have HA0 := Lib.hid ha0
  have hst2 : bits .xor .u32 2166136261 ((n : Int) * 2654435769 % 4294967296) = (a0 : Int) := by rw [hmul]; exact hst
  clear hR0 hU0 ha0 hst hmul hm hsm
  go_enter Tryd.func37, Tryd.ntmps37
  go_wp2_with fail
  generalize rnC s w = cz at *
  generalize rnW s w = W at *
  clear hcv hst2
  go_loop [5, 7] (fun v5 v7 => ∃ (k a : Nat), v5 = .int .u32 (a : Int) ∧ v7 = .int .i64 k ∧ k ≤ m ∧ a < 4294967296 ∧ (R.drop k).foldl hR a = R.foldl hR a0) (fun _ v7 => m - (intOf v7).toNat)
  case atStart => exact ⟨0, a0, rfl, rfl, Nat.zero_le _, hal, rfl⟩
  case round =>
    obtain ⟨k, a, rfl, rfl, hk, ha, fA⟩ := hrel
    by_cases hkm : k < m
    · have hkR : k < R.length := by have := HM.out; omega
      have c0 : W.cell? ⟨w.heap.size, k, none⟩ = some (.int .i32 (R[k] : Nat)) := HCC.out k R[k] (List.getElem?_eq_getElem hkR)
      have hrs := HSM.out R[k] (List.getElem_mem hkR)
      rw [List.drop_eq_getElem_cons hkR, List.foldl_cons] at fA
      obtain ⟨r, hr⟩ : ∃ r, R[k]'hkR = r := ⟨_, rfl⟩
      rw [hr] at c0 hrs fA
      have FA := Lib.hid fA
      have hrm : (r : Int) % 4294967296 = (r : Int) := by omega
      have hx := x_step a r ha hrs
      have HX := Lib.hid hx
      have la := hR_lt a r
      clear fA hr
      go_wp2_with fail
      go_round
      case rel => exact ⟨k + 1, hR a r, by rw [HX.out], by go_num, hkm, la, FA.out⟩
      case measure => simp [intOf]; omega
    · rw [List.drop_eq_nil_of_le (by have := HM.out; omega), List.foldl_nil] at fA
      have h1 := x_mid a ha
      have h2 := x_end (hM a) (hM_lt a)
      have hlm := hM_lt a
      have HF : Hid (hE (hM a) = U) := Lib.hid (by rw [← HU.out, hU, HA0.out, ← fA])
      obtain ⟨mm, hmm⟩ : ∃ m, hM a = m := ⟨_, rfl⟩
      rw [hmm] at h1 h2 hlm HF
      clear hmm fA
      have H2 := Lib.hid h2
      clear h2
      go_wp2_with fail
      go_ret
      exact ⟨ret_int (H2.out.trans (by rw [HF.out])), hB0⟩

set_option maxRecDepth 100000 in
theorem cmp_isNaNU (a : Int) (w : World) : Calls Tryd.prog 46 #[.int .u32 a] w fun e w' => e = .returned (.bool false) ∧ w = w' := by
  go_enter Tryd.func46, Tryd.ntmps46
  go_wp2
  go_ret
  exact ⟨ret_bool' (by simp), rfl⟩
set_option maxRecDepth 100000 in
theorem cmp_CompareU (a b : Int) (w : World) : Calls Tryd.prog 32 #[.int .u32 a, .int .u32 b] w fun e w' => e = .returned (.int .i64 (cmpI a b)) ∧ w = w' := by
  have hcase := cmpI_cases a b
  rcases hcase with ⟨h1, h3⟩ | ⟨h1, h2, h3⟩ | ⟨h1, h2, h3⟩
  all_goals
    rw [h3]
    clear h3
    go_enter Tryd.func32, Tryd.ntmps32
    go_wp2_with fail
    refine (cmp_isNaNU a w).mono ?_
    rintro e w1 ⟨rfl, rfl⟩
    go_wp2_with fail
    refine (cmp_isNaNU b w).mono ?_
    rintro e w1 ⟨rfl, rfl⟩
    go_wp2_with fail
    go_ret
    exact ⟨rfl, rfl⟩

/-- A place, and its node. -/
abbrev Pl := Nat × Nat
def plL (p : Pl) : List Value := [.int .u32 (p.1 : Int), .int .i64 (p.2 : Int)]
def cmpPl (a b : Pl) : Int := orL [cmpI (a.1 : Int) (b.1 : Int), cmpI (a.2 : Int) (b.2 : Int)]

set_option maxRecDepth 100000 in
set_option maxHeartbeats 1000000 in
theorem new_cmp (a1 a2 b1 b2 : Nat) (w : World) : Calls Tryd.prog 30 #[.agg #[.int .u32 (a1 : Int), .int .i64 (a2 : Int)], .agg #[.int .u32 (b1 : Int), .int .i64 (b2 : Int)]] w fun e w' => e = .returned (.int .i64 (cmpPl (a1, a2) (b1, b2))) ∧ ∃ q os', w' = grow (w.drewN q) os' := by
  obtain ⟨x, hx⟩ : ∃ x, cmpI (a1 : Int) (b1 : Int) = x := ⟨_, rfl⟩
  obtain ⟨y, hy⟩ : ∃ y, cmpI (a2 : Int) (b2 : Int) = y := ⟨_, rfl⟩
  have hz : cmpPl (a1, a2) (b1, b2) = orL [x, y] := by unfold cmpPl; rw [hx, hy]
  rw [hz]
  clear hz
  obtain ⟨z, hz⟩ : ∃ z, orL [x, y] = z := ⟨_, rfl⟩
  rw [hz]
  have HX := Lib.hid hx
  have HY := Lib.hid hy
  have HZ := Lib.hid hz
  clear hx hy hz
  have B0 := (Blk.new w 60 #[.int .u32 (a1 : Int), .int .i64 (a2 : Int)]).alloc (.cells #[.int .u32 (b1 : Int), .int .i64 (b2 : Int)] 60)
  have B1 := Blk.new (w.alloc (.cells #[.int .u32 (a1 : Int), .int .i64 (a2 : Int)] 60)) 60 #[.int .u32 (b1 : Int), .int .i64 (b2 : Int)]
  rw [World.size_alloc] at B1
  go_enter Tryd.func30, Tryd.ntmps30
  go_upto_region 1 with fail
  obtain ⟨W, hW⟩ : ∃ W, (w.alloc (.cells #[.int .u32 (a1 : Int), .int .i64 (a2 : Int)] 60)).alloc (.cells #[.int .u32 (b1 : Int), .int .i64 (b2 : Int)] 60) = W := ⟨_, rfl⟩
  rw [hW] at B0 B1 ⊢
  have HW := Lib.hid hW
  clear hW
  have q0 : ∀ p : Kept (fun _ => True) W.drew, p.v.cell? ⟨w.heap.size, 0, none⟩ = some (.int .u32 (a1 : Int)) := fun p => p.h.cell trivial (B0.cell 0)
  have q1 : ∀ p : Kept (fun _ => True) W.drew, p.v.cell? ⟨w.heap.size, 1, none⟩ = some (.int .i64 (a2 : Int)) := fun p => p.h.cell trivial (B0.cell 1)
  have q2 : ∀ p : Kept (fun _ => True) W.drew, p.v.cell? ⟨w.heap.size + 1, 0, none⟩ = some (.int .u32 (b1 : Int)) := fun p => p.h.cell trivial (B1.cell 0)
  have q3 : ∀ p : Kept (fun _ => True) W.drew, p.v.cell? ⟨w.heap.size + 1, 1, none⟩ = some (.int .i64 (b2 : Int)) := fun p => p.h.cell trivial (B1.cell 1)
  clear B0 B1
  refine wp_region_mixDk (M := []) (fun _ => True) [0, 1, 2, 3, 5, 6, 7, 8, 4, 9, 10, 11, 12] (by kernel_rfl) (by kernel_rfl) ?_
  iterate 8 (refine mix_calmDk rfl rfl ?_; go_big_quiet_step (fail); refine wpQuiet_nil ?_)
  refine mix_loudDk rfl (by kernel_rfl) rfl ?_
  intro K1 hK1
  have HK := Lib.hid hK1
  clear hK1 
  go_wp2_with fail
  refine (cmp_CompareU a1 b1 _).mono ?_
  rintro x w1 ⟨rfl, rfl⟩
  rw [HX.out]
  go_wp2_with fail
  refine HK.out _ _ (Stand.refl _ _) ?_
  clear HK
  refine mix_loudDk rfl (by kernel_rfl) rfl ?_
  intro K1 hK1
  have HK := Lib.hid hK1
  clear hK1 
  go_wp2_with fail
  refine (cmp_Compare a2 b2 _).mono ?_
  rintro x w1 ⟨rfl, rfl⟩
  rw [HY.out]
  go_wp2_with fail
  refine HK.out _ _ (Stand.refl _ _) ?_
  clear HK
  refine mix_loudDk rfl (by kernel_rfl) rfl ?_
  intro K1 hK1
  have HK := Lib.hid hK1
  clear hK1 
  go_wp2_with fail
  refine HK.out _ _ ((Stand.refl _ _).alloc _) ?_
  clear HK
  have BO := Blk.new W.drew 3 #[.int .i64 x, .int .i64 y]
  refine mix_loudDk rfl (by kernel_rfl) rfl ?_
  intro K1 hK1
  have HK := Lib.hid hK1
  clear hK1 
  go_wp2_with fail
  refine (cmp_Or (W.drew.alloc (.cells #[.int .i64 x, .int .i64 y] 3)) W.drew.heap.size [x, y] 2 rfl (fun k z hz => match k, hz with | 0, hz => (by simp at hz; subst hz; exact BO.cell 0) | 1, hz => (by simp at hz; subst hz; exact BO.cell 1)) (by omega)).mono ?_
  rintro x w1 ⟨rfl, rfl⟩
  rw [HZ.out]
  go_wp2_with fail
  refine HK.out _ _ (Stand.refl _ _) ?_
  clear HK
  iterate 1 (refine mix_calmDk rfl rfl ?_; go_big_quiet_step (fail); refine wpQuiet_nil ?_)
  refine mix_endDk ?_
  go_wp2_with fail
  go_ret
  refine ⟨rfl, 1, #[.cells #[.int .u32 (a1 : Int), .int .i64 (a2 : Int)] 60, .cells #[.int .u32 (b1 : Int), .int .i64 (b2 : Int)] 60, .cells #[.int .i64 x, .int .i64 y] 3], ?_⟩
  rw [← HW.out]
  rfl

set_option maxRecDepth 100000 in
theorem rep_cmp (a1 a2 x : Nat) (w : World) : Calls Tryd.prog 35 #[.agg #[.int .u32 (a1 : Int), .int .i64 (a2 : Int)], .int .u32 (x : Int)] w fun e w' => e = .returned (.int .i64 (cmpI (a1 : Int) (x : Int))) ∧ Below w.heap.size w w' := by
  have B0 := Blk.new w 60 #[.int .u32 (a1 : Int), .int .i64 (a2 : Int)]
  have q0 := B0.cell 0
  have hb := (Below.refl w.heap.size w).alloc (Nat.le_refl _) (.cells #[.int .u32 (a1 : Int), .int .i64 (a2 : Int)] 60)
  have HC := Lib.hid (cmp_CompareU a1 x (w.alloc (.cells #[.int .u32 (a1 : Int), .int .i64 (a2 : Int)] 60)))
  clear B0
  go_enter Tryd.func35, Tryd.ntmps35
  go_wp2_with fail
  refine HC.out.mono ?_
  rintro e w' ⟨rfl, rfl⟩
  go_wp2_with fail
  go_ret
  exact ⟨rfl, hb⟩
end Go.Proofs.YtncdchhpdbmfcaaDoor
