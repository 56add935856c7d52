/- Contracts of hist.Of, Hist.Len and hist.Join. -/
import Derived.Test.YtfebncpfhdgkpaaHistA
import Derived.Test.YtfebncpfhdgkpaaInts
import Derived.Test.YtfebncpfhdgkpaaBytesA
import Derived.Test.YtfebncpfhdgkpaaNumsA
import Derived.StillTail
import Derived.StillTactics
namespace Go.Proofs.Ytfebncpfhdgkpaa
open Go.RowKit Go.Sort

theorem hist_size : (Try.prog.info? 29).map (·.size) = some 24 := by kernel_rfl
/-- The counts as an array's cells. -/
def hv (H : List Int) : Array Value := (H.map vi).toArray
def hz : List Int := [0, 0, 0, 0, 0, 0, 0, 0, 0, 0, 0, 0, 0, 0, 0, 0, 0, 0, 0, 0, 0, 0, 0, 0]
theorem hv_size (H : List Int) (h : H.length = 24) : (Try.prog.info? 29).map (·.size) = some (hv H).size := by rw [hist_size]; simp [hv, h]
theorem hv_one (H : List Int) : (hv H).all (·.oneCell') = true := by
  rw [Array.all_eq_true]
  intro i hi
  unfold hv at hi ⊢
  simp [vi, Value.oneCell']
theorem hv_get (H : List Int) (i : Nat) (h : i < H.length) : (hv H)[i]? = some (.int .i64 H[i]) := by simp [hv, h, vi]
theorem Blk.setRow {w : World} {g : Nat} {t : TypeId} {cs : Array Value} (h : Blk w g t cs) (cs' : Array Value) : Blk (w.setRow g cs') g t cs' := by
  unfold Blk at h ⊢
  simp [World.setRow, Array.getElem?_modify, h]
theorem below_setRow {B : Nat} {a w : World} (h : Below B a w) {g : Nat} (hg : B ≤ g) (cs : Array Value) : Below B a (w.setRow g cs) :=
  ⟨h.os, h.tape, h.output, by have := h.size; simp [World.setRow]; omega, fun k hk => by
    rw [← h.block k hk]
    simp only [World.setRow, Array.getElem?_modify]
    rw [if_neg (by omega)]⟩

theorem hv_set (H : List Int) (k : Nat) (x : Int) : (hv H).setIfInBounds k (.int .i64 x) = hv (H.set k x) := by
  unfold hv
  rw [List.map_set, List.setIfInBounds_toArray]
  rfl

theorem bk_le : ∀ (f N i : Nat), bk f N i ≤ i + f
  | 0, _, i => Nat.le_refl _
  | f + 1, N, i => by
    unfold bk
    split
    · omega
    · have := bk_le f N (i + 1); omega
theorem bkt_lt (n : Int) : bkt n < 24 := by have := bk_le 23 n.toNat 0; unfold bkt; omega

/-- Numbers, counted. -/
def cntH (L : List Int) : List Int := (List.range 24).map fun i => (((L.filter fun n => bkt n == i).length : Nat) : Int)
theorem cntH_len (L : List Int) : (cntH L).length = 24 := by simp [cntH]
theorem cntH_get (L : List Int) (i : Nat) (h : i < 24) : (cntH L)[i]? = some (((L.filter fun n => bkt n == i).length : Nat) : Int) := by simp [cntH, h]
theorem cntH_nil : cntH [] = hz := by decide
theorem cntH_range (L : List Int) (i : Nat) (h : i < (cntH L).length) : 0 ≤ (cntH L)[i] ∧ (cntH L)[i] ≤ L.length := by
  have h24 : i < 24 := by rw [cntH_len] at h; exact h
  have h1 := cntH_get L i h24
  rw [List.getElem?_eq_getElem h] at h1
  injection h1 with h1
  rw [h1]
  have := List.length_filter_le (fun n => bkt n == i) L
  omega
theorem cntH_snoc (L : List Int) (x : Int) (h : bkt x < (cntH L).length) : cntH (L ++ [x]) = (cntH L).set (bkt x) ((cntH L)[bkt x] + 1) := by
  apply List.ext_getElem?
  intro i
  rw [List.getElem?_set]
  by_cases hi : i < 24
  · rw [cntH_get _ i hi, List.filter_append, List.length_append]
    by_cases he : bkt x = i
    · subst he
      have h1 := cntH_get L (bkt x) hi
      rw [List.getElem?_eq_getElem h] at h1
      injection h1 with h1
      rw [if_pos rfl, if_pos h, h1]
      simp
    · rw [if_neg he, cntH_get _ i hi]
      simp [he]
  · rw [List.getElem?_eq_none (by rw [cntH_len]; omega), List.getElem?_eq_none (by rw [cntH_len]; omega)]
    split
    · have := cntH_len L; omega
    · rfl

set_option maxRecDepth 100000 in
set_option maxHeartbeats 1000000 in
theorem hist_Of (A : Option Addr) (n c : Nat) (L : List Int) (w : World) (hr : Reads w w.heap.size 1 A n (L.map vi)) (hn : n ≤ 1000000) : Calls Try.prog 17 #[.slice A n c] w fun e w' => e = .returned (.agg (hv (cntH L))) ∧ Below w.heap.size w w' := by
  have hZ : (#[.int .i64 0, .int .i64 0, .int .i64 0, .int .i64 0, .int .i64 0, .int .i64 0, .int .i64 0, .int .i64 0, .int .i64 0, .int .i64 0, .int .i64 0, .int .i64 0, .int .i64 0, .int .i64 0, .int .i64 0, .int .i64 0, .int .i64 0, .int .i64 0, .int .i64 0, .int .i64 0, .int .i64 0, .int .i64 0, .int .i64 0, .int .i64 0] : Array Value) = hv hz := rfl
  have B2 := Blk.new w 29 (hv hz)
  have B3 := Blk.new (w.alloc (.cells (hv hz) 29)) 29 (hv hz)
  replace B2 := B2.alloc (.cells (hv hz) 29)
  rw [World.size_alloc] at B3
  go_enter Try.func17, Try.ntmps17
  go_upto_region 2 with (refine wpList_store_row rfl _ _ _ rfl (w.heap.size + 1) (hv hz) rfl rfl 29 (hv hz) B3 (hv_size hz rfl) rfl (hv_one hz) ?_)
  have hL : L.length = n := by have := hr.1; simpa using this
  have HR := Lib.hid hr
  have HL := Lib.hid hL
  replace B2 : Blk (((w.alloc (.cells (hv hz) 29)).alloc (.cells (hv hz) 29)).setRow (w.heap.size + 1) (hv hz)) w.heap.size 29 (hv hz) := by
    unfold Blk at B2 ⊢
    simp only [World.setRow, Array.getElem?_modify]
    rw [if_neg (by omega)]
    exact B2
  replace B3 := B3.setRow (hv hz)
  have hB := below_setRow (((Below.refl w.heap.size w).alloc (Nat.le_refl _) (.cells (hv hz) 29)).alloc (by simp) (.cells (hv hz) 29)) (g := w.heap.size + 1) (by omega) (hv hz)
  generalize ((w.alloc (.cells (hv hz) 29)).alloc (.cells (hv hz) 29)).setRow (w.heap.size + 1) (hv hz) = W at *
  clear hr hL hZ
  go_wp2_with fail
  go_loopw [9] (fun v9 wr => ∃ i : Nat, v9 = .int .i64 i ∧ i ≤ n ∧ Blk wr (w.heap.size + 1) 29 (hv (cntH (L.take i))) ∧ Blk wr w.heap.size 29 (hv hz) ∧ Below w.heap.size w wr) (fun v9 _ => n - (intOf v9).toNat)
  case atStart => exact ⟨0, rfl, Nat.zero_le _, by rw [List.take_zero, cntH_nil]; exact B3, B2, hB⟩
  case round =>
    clear B2 B3 hB
    obtain ⟨i, rfl, hin, B3, B2, hB⟩ := hrel
    by_cases hi : i < n
    · obtain ⟨b, off, rfl, hb, hc⟩ := Reads.form (HR.out.below hB) (by omega)
      have hil : i < L.length := by have := HL.out; omega
      have q0 := hc i (vi L[i]) (by simp [hil])
      unfold vi at q0
      have hnx : L.take (i + 1) = L.take i ++ [L[i]] := List.take_succ_eq_append_getElem hil
      obtain ⟨x, hx⟩ : ∃ x, L[i] = x := ⟨_, rfl⟩
      rw [hx] at q0 hnx
      have hk24 := bkt_lt x
      have hkl : bkt x < (cntH (L.take i)).length := by rw [cntH_len]; exact hk24
      have hsn := cntH_snoc (L.take i) x hkl
      have hcl := cntH_len (L.take i)
      have hrg := cntH_range (L.take i) (bkt x) hkl
      have hlt : (L.take i).length ≤ n := by simp; omega
      have HC := Lib.hid (fun w => hist_Bucket x w)
      rw [← hnx] at hsn
      obtain ⟨k, hk⟩ : ∃ k, bkt x = k := ⟨_, rfl⟩
      simp only [hk] at hsn hk24 hkl hrg HC
      have hg := hv_get (cntH (L.take i)) k hkl
      have hst := hv_set (cntH (L.take i)) k ((cntH (L.take i))[k] + 1)
      rw [← hsn] at hst
      have hc3 : wr.cell? ⟨w.heap.size + 1, k, none⟩ = some (.int .i64 (cntH (L.take i))[k]) := by rw [B3.cell]; exact hg
      have hf3 := B3.frozen k
      have B3' := B3.set_ k (.int .i64 ((cntH (L.take i))[k] + 1))
      rw [hst] at B3'
      have B2' := B2.far (p := ⟨w.heap.size + 1, k, none⟩) (by simp) (.int .i64 ((cntH (L.take i))[k] + 1))
      have hB' := hB.setCell (p := ⟨w.heap.size + 1, k, none⟩) (by simp) (.int .i64 ((cntH (L.take i))[k] + 1))
      generalize (cntH (L.take i))[k] = z at *
      have hz1 : IntKind.i64.wrap (z + 1) = z + 1 := by rw [IntKind.wrap_i64]; omega
      clear hg hst hsn hnx hc hx hk hkl hcl hrg B3 B2
      go_wp2_with (go_at_call 13; refine (HC.out _).mono ?_; rintro e w' ⟨rfl, rfl⟩)
      go_roundw
      case rel => exact ⟨i + 1, by go_num, by omega, by simpa using B3', by simpa using B2', by simpa using hB'⟩
      case measure => simp [intOf]; omega
    · have hie : L.take i = L := List.take_of_length_le (by have := HL.out; omega)
      rw [hie] at B3
      have HC := Lib.hid (And.intro (hv_size (cntH L) (cntH_len L)) (hv_one (cntH L)))
      have HZ : Hid ((hv hz).size = (hv (cntH L)).size) := Lib.hid (by simp [hv, cntH_len, hz])
      generalize hcs : hv (cntH L) = cs at *
      go_wp2_with (first
        | (refine wpList_load_row rfl _ _ rfl (w.heap.size + 1) rfl 29 cs (0, 0) _ B3 Try.underlying29 rfl HC.out.1 ?_)
        | (refine wpList_store_row rfl _ _ _ rfl w.heap.size cs rfl rfl 29 (hv hz) B2 HC.out.1 HZ.out HC.out.2 ?_))
      subst hcs
      refine bodyPost_ret (results_cell_row rfl _ _ w.heap.size 29 (hv (cntH L)) (0, 0) _ rfl (B2.setRow _) Try.underlying29 rfl HC.out.1) rfl ⟨rfl, below_setRow hB (Nat.le_refl _) _⟩

theorem hv_index (H : List Int) (i : Nat) (hl : H.length = 24) (h : i < H.length) (w : World) : (Instr.index 29 (.agg (hv H)) (.int .i64 (i : Int))).run Try.prog w = .ok (.int .i64 H[i]) w := by
  have h1 : (sizeOf 3).run Try.prog w = .ok 1 w := by kernel_rfl
  have h3 : 0 ≤ (i : Int) ∧ (i : Int) < ((24 : Nat) : Int) := by omega
  simp [Instr.index, run_underlying Try.underlying29, asIntOf, h1, part, hv_get H i h]
  omega
def addF (a k : Int) : Int := add50 a (max k 0)
def lenF (H : List Int) : Int := H.foldl addF 0
theorem lenF_take (H : List Int) (i : Nat) (h : i < H.length) : lenF (H.take (i + 1)) = addF (lenF (H.take i)) H[i] := by
  unfold lenF
  rw [List.take_succ_eq_append_getElem h, List.foldl_append]
  rfl

set_option maxRecDepth 100000 in
set_option maxHeartbeats 1000000 in
theorem hist_Len (H : List Int) (hl : H.length = 24) (w : World) : Calls Try.prog 19 #[.agg (hv H)] w fun e w' => e = .returned (.int .i64 (lenF H)) ∧ Below w.heap.size w w' := by
  have hsz := hv_size H hl
  have HX := Lib.hid (fun i h => hv_index H i hl h)
  have hg : Hid (∀ i, (h : i < H.length) → lenF (H.take (i + 1)) = addF (lenF (H.take i)) H[i]) := Lib.hid (lenF_take H)
  have B1 := Blk.new w 29 (hv H)
  have hB := (Below.refl w.heap.size w).alloc (Nat.le_refl _) (.cells (hv H) 29)
  generalize hv H = cs at *
  go_enter Try.func19, Try.ntmps19
  go_wp2_with (refine wpList_load_row rfl _ _ rfl w.heap.size rfl 29 cs (0, 0) _ B1 Try.underlying29 rfl hsz ?_)
  generalize w.alloc (.cells cs 29) = W at *
  go_loop [3, 7] (fun v3 v7 => ∃ i : Nat, v7 = .int .i64 i ∧ i ≤ 24 ∧ v3 = .int .i64 (lenF (H.take i))) (fun _ v7 => 24 - (intOf v7).toNat)
  case atStart => exact ⟨0, rfl, Nat.zero_le _, rfl⟩
  case round =>
    obtain ⟨i, rfl, hi, rfl⟩ := hrel
    by_cases h24 : i < 24
    · have hil : i < H.length := by omega
      have hx := HX.out i hil
      have hn := hg.out i hil
      generalize lenF (H.take i) = a at *
      generalize H[i] = k at *
      have HN := Lib.hid hn
      clear hn
      rcases Int.lt_or_le k 0 with hk | hk
      · have hm : addF a k = add50 a 0 := by unfold addF; rw [show max k 0 = 0 by omega]
        have HM := Lib.hid hm
        clear hm
        go_wp2_with (go_at_call 65; refine (nums_Add _ _ _).mono ?_; rintro e w' ⟨rfl, rfl⟩)
        go_round
        case rel => exact ⟨i + 1, by go_num, by omega, by rw [HN.out, HM.out]⟩
        case measure => simp [intOf]; omega
      · have hm : addF a k = add50 a k := by unfold addF; rw [show max k 0 = k by omega]
        have HM := Lib.hid hm
        clear hm
        go_wp2_with (go_at_call 65; refine (nums_Add _ _ _).mono ?_; rintro e w' ⟨rfl, rfl⟩)
        go_round
        case rel => exact ⟨i + 1, by go_num, by omega, by rw [HN.out, HM.out]⟩
        case measure => simp [intOf]; omega
    · have he : H.take i = H := List.take_of_length_le (by omega)
      rw [he]
      go_wp2_with fail
      go_ret
      exact ⟨rfl, hB⟩

/-- Two counts together. -/
def joinH (G H : List Int) : List Int := List.zipWith (fun a b => add50 (max a 0) (max b 0)) G H
def upJ (G H : List Int) (i : Nat) : List Int := (joinH G H).take i ++ G.drop i
theorem joinH_len (G H : List Int) (h1 : G.length = 24) (h2 : H.length = 24) : (joinH G H).length = 24 := by simp [joinH, h1, h2]
theorem upJ_len (G H : List Int) (i : Nat) (h1 : G.length = 24) (h2 : H.length = 24) (hi : i ≤ 24) : (upJ G H i).length = 24 := by unfold upJ; simp [joinH_len G H h1 h2, h1]; omega
theorem upJ_get (G H : List Int) (i : Nat) (h1 : G.length = 24) (h2 : H.length = 24) (hi : i < 24) : (upJ G H i)[i]? = some (G[i]'(by omega)) := by
  unfold upJ
  rw [List.getElem?_append_right (by simp [joinH_len G H h1 h2]; omega)]
  simp only [List.length_take, joinH_len G H h1 h2, List.getElem?_drop]
  rw [show i + (i - min i 24) = i by omega, List.getElem?_eq_getElem (by omega)]
theorem upJ_succ (G H : List Int) (i : Nat) (h1 : G.length = 24) (h2 : H.length = 24) (hi : i < 24) : upJ G H (i + 1) = (upJ G H i).set i (add50 (max (G[i]'(by omega)) 0) (max (H[i]'(by omega)) 0)) := by
  have hj : i < (joinH G H).length := by rw [joinH_len G H h1 h2]; exact hi
  have hl : ((joinH G H).take i).length = i := by simp; omega
  unfold upJ
  rw [List.set_append_right _ _ (by omega), hl, Nat.sub_self, List.take_succ_eq_append_getElem hj, List.drop_eq_getElem_cons (show i < G.length by omega), List.set_cons_zero, List.append_assoc]
  simp [joinH]

set_option maxRecDepth 100000 in
set_option maxHeartbeats 2000000 in
theorem hist_Join (G H : List Int) (h1 : G.length = 24) (h2 : H.length = 24) (w : World) : Calls Try.prog 18 #[.agg (hv G), .agg (hv H)] w fun e w' => e = .returned (.agg (hv (joinH G H))) ∧ Below w.heap.size w w' := by
  have hZ : (#[.int .i64 0, .int .i64 0, .int .i64 0, .int .i64 0, .int .i64 0, .int .i64 0, .int .i64 0, .int .i64 0, .int .i64 0, .int .i64 0, .int .i64 0, .int .i64 0, .int .i64 0, .int .i64 0, .int .i64 0, .int .i64 0, .int .i64 0, .int .i64 0, .int .i64 0, .int .i64 0, .int .i64 0, .int .i64 0, .int .i64 0, .int .i64 0] : Array Value) = hv hz := rfl
  have B2 := ((Blk.new w 29 (hv (upJ G H 0))).alloc (.cells (hv H) 29)).alloc (.cells (hv hz) 29)
  have B3 := (Blk.new (w.alloc (.cells (hv (upJ G H 0)) 29)) 29 (hv H)).alloc (.cells (hv hz) 29)
  have B4 := Blk.new ((w.alloc (.cells (hv (upJ G H 0)) 29)).alloc (.cells (hv H) 29)) 29 (hv hz)
  have hB := (((Below.refl w.heap.size w).alloc (Nat.le_refl _) (.cells (hv (upJ G H 0)) 29)).alloc (by simp) (.cells (hv H) 29)).alloc (by simp; omega) (.cells (hv hz) 29)
  have hG : upJ G H 0 = G := by simp [upJ]
  rw [hG] at B2 B3 B4 hB
  rw [World.size_alloc] at B3 B4
  rw [World.size_alloc] at B4
  clear hG
  go_enter Try.func18, Try.ntmps18
  go_upto_region 1 with fail
  generalize ((w.alloc (.cells (hv G) 29)).alloc (.cells (hv H) 29)).alloc (.cells (hv hz) 29) = W at *
  go_wp2_with fail
  clear hZ
  go_loopw [6] (fun v6 wr => ∃ i : Nat, v6 = .int .i64 i ∧ i ≤ 24 ∧ Blk wr w.heap.size 29 (hv (upJ G H i)) ∧ Blk wr (w.heap.size + 1) 29 (hv H) ∧ Blk wr (w.heap.size + 1 + 1) 29 (hv hz) ∧ Below w.heap.size w wr) (fun v6 _ => 24 - (intOf v6).toNat)
  case atStart => exact ⟨0, rfl, Nat.zero_le _, by have e : upJ G H 0 = G := by simp [upJ]
                                                   rw [e]; exact B2, B3, B4, hB⟩
  case round =>
    clear B2 B3 B4 hB
    obtain ⟨i, rfl, hi, B2, B3, B4, hB⟩ := hrel
    by_cases h24 : i < 24
    · have c2 : wr.cell? ⟨w.heap.size, i, none⟩ = some (.int .i64 (G[i]'(by omega))) := by
        have hg := upJ_get G H i h1 h2 h24
        rw [B2.cell]
        unfold hv
        simp [hg, vi]
      have c3 : wr.cell? ⟨w.heap.size + 1, i, none⟩ = some (.int .i64 (H[i]'(by omega))) := by
        rw [B3.cell]
        exact hv_get H i (by omega)
      have f2 := B2.frozen i
      have hs := upJ_succ G H i h1 h2 h24
      have hv2 := hv_set (upJ G H i) i (add50 (max (G[i]'(by omega)) 0) (max (H[i]'(by omega)) 0))
      rw [← hs] at hv2
      have B2' := B2.set_ i (.int .i64 (add50 (max (G[i]'(by omega)) 0) (max (H[i]'(by omega)) 0)))
      rw [hv2] at B2'
      have B3' := (B3.far (p := ⟨w.heap.size, i, none⟩) (by simp) (.int .i64 (add50 (max (G[i]'(by omega)) 0) (max (H[i]'(by omega)) 0)))).drew
      have B4' := (B4.far (p := ⟨w.heap.size, i, none⟩) (by simp; omega) (.int .i64 (add50 (max (G[i]'(by omega)) 0) (max (H[i]'(by omega)) 0)))).drew
      have hB' := below_drewN (hB.setCell (p := ⟨w.heap.size, i, none⟩) (Nat.le_refl _) (.int .i64 (add50 (max (G[i]'(by omega)) 0) (max (H[i]'(by omega)) 0)))) 1
      replace B2' := B2'.drew
      generalize G[i]'(by omega) = x at *
      generalize H[i]'(by omega) = y at *
      clear hs hv2 B3 B4
      go_upto_region 4 with fail
      refine wp_region_still_tail 11 (by kernel_rfl) (by kernel_rfl) ?_
      simp only [List.take_succ_cons, List.take_zero, List.drop_succ_cons, List.drop_zero]
      repeat (first | still_step | still_call ((nums_Add _ _ _).mono fun _ _ h => ⟨h.1, h.2.symm⟩))
      refine wpStill_nil ?_
      have hx : (if x < 0 then 0 else x) = max x 0 := by omega
      have hy : (if y < 0 then 0 else y) = max y 0 := by omega
      rw [hx, hy]
      generalize add50 (max x 0) (max y 0) = z at *
      clear hx hy
      change wpList _ _ _ _ _ wr.drew
      go_wp2_with fail
      go_roundw
      case rel => exact ⟨i + 1, by go_num, by omega, B2', B3', B4', hB'⟩
      case measure => simp [intOf]; omega
    · have he : upJ G H i = joinH G H := by
        unfold upJ
        rw [List.take_of_length_le (by rw [joinH_len G H h1 h2]; omega), List.drop_eq_nil_of_le (by omega), List.append_nil]
      rw [he] at B2
      have hj := joinH_len G H h1 h2
      have HC := Lib.hid (And.intro (hv_size (joinH G H) hj) (hv_one (joinH G H)))
      have HZ : Hid ((hv hz).size = (hv (joinH G H)).size) := Lib.hid (by simp [hv, hj, hz])
      generalize hcs : hv (joinH G H) = cs at *
      go_wp2_with (first
        | (refine wpList_load_row rfl _ _ rfl w.heap.size rfl 29 cs (0, 0) _ B2 Try.underlying29 rfl HC.out.1 ?_)
        | (refine wpList_store_row rfl _ _ _ rfl (w.heap.size + 1 + 1) cs rfl rfl 29 (hv hz) B4 HC.out.1 HZ.out HC.out.2 ?_))
      subst hcs
      refine bodyPost_ret (results_cell_row rfl _ _ (w.heap.size + 1 + 1) 29 (hv (joinH G H)) (0, 0) _ rfl (B4.setRow _) Try.underlying29 rfl HC.out.1) rfl ⟨rfl, below_setRow hB (by omega) _⟩
end Go.Proofs.Ytfebncpfhdgkpaa
