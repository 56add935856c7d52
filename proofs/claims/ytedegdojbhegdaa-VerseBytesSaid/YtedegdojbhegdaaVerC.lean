/- Contracts of verse.Put and of the reference's Put: a version's bytes. -/
import Derived.Test.YtedegdojbhegdaaVerB
namespace Go.Proofs.Ytedegdojbhegdaa
open Go.RowKit Go.Sort

/-- A version: the log's number, the greatest one, the tables, three stamps, and whether it is in quarantine. -/
structure Ver where
  log : Int
  next : Int
  tabs : List (Int × Bool)
  fl : Int × Int × Int
  fe : Int × Int × Int
  se : Int × Int × Int
  quar : Bool
/-- A table's cells. -/
def tc (t : Int × Bool) : List Value := [.int .i64 t.1, .bool t.2]
theorem tc_len (t : Int × Bool) : (tc t).length = 2 := rfl
/-- A version's cells, its tables in the slice tv. -/
def verC (v : Ver) (tv : Value) : Array Value := #[.int .i64 v.log, .int .i64 v.next, tv, .int .i64 v.fl.1, .int .i64 v.fl.2.1, .int .i64 v.fl.2.2, .int .i64 v.fe.1, .int .i64 v.fe.2.1, .int .i64 v.fe.2.2, .int .i64 v.se.1, .int .i64 v.se.2.1, .int .i64 v.se.2.2, .bool v.quar]
def tput (t : Int × Bool) : List UInt8 := wputI t.1 ++ wputI (b01 t.2)
def vhead (v : Ver) : List UInt8 := (wputI v.log ++ wputI v.next) ++ wputI v.tabs.length
/-- A version's bytes. -/
def vput (v : Ver) : List UInt8 := ((((vhead v ++ v.tabs.flatMap tput) ++ sput v.fl) ++ sput v.fe) ++ sput v.se) ++ wputI (b01 v.quar)
/-- The numbers are those of 64 bits. -/
structure Ver.In (v : Ver) : Prop where
  log : v.log ≤ 9223372036854775807
  next : v.next ≤ 9223372036854775807
  tabs : ∀ t ∈ v.tabs, t.1 ≤ 9223372036854775807
  fl : v.fl.1 ≤ 9223372036854775807 ∧ v.fl.2.1 ≤ 9223372036854775807 ∧ v.fl.2.2 ≤ 9223372036854775807
  fe : v.fe.1 ≤ 9223372036854775807 ∧ v.fe.2.1 ≤ 9223372036854775807 ∧ v.fe.2.2 ≤ 9223372036854775807
  se : v.se.1 ≤ 9223372036854775807 ∧ v.se.2.1 ≤ 9223372036854775807 ∧ v.se.2.2 ≤ 9223372036854775807
theorem b01_le (b : Bool) : b01 b ≤ 9223372036854775807 := by cases b <;> decide
theorem tput_len (t : Int × Bool) (h : t.1 ≤ 9223372036854775807) : (tput t).length ≤ 18 := by
  have := wputI_len t.1 h
  have := wputI_len (b01 t.2) (b01_le _)
  unfold tput
  rw [List.length_append]
  omega
theorem tabs_len (T : List (Int × Bool)) (h : ∀ t ∈ T, t.1 ≤ 9223372036854775807) : (T.flatMap tput).length ≤ 18 * T.length := by
  induction T with
  | nil => simp
  | cons a T ih =>
    have h1 := tput_len a (h a (List.mem_cons_self ..))
    have h2 := ih fun t ht => h t (List.mem_cons_of_mem _ ht)
    rw [List.flatMap_cons, List.length_append, List.length_cons]
    omega
theorem take_flat (T : List (Int × Bool)) (k : Nat) (hk : k < T.length) : (T.take (k + 1)).flatMap tput = (T.take k).flatMap tput ++ tput T[k] := by
  rw [List.take_succ_eq_append_getElem hk, List.flatMap_append]
  simp
theorem Reads.formN {w : World} {B n size : Nat} {A : Option Addr} {xs : List Value} (h : Reads w B size A n xs) (hn : 0 < n) (hs : 0 < size) : ∃ b off, A = some ⟨b, off, none⟩ ∧ b < B ∧ ∀ j u, xs[j]? = some u → w.cell? ⟨b, off + j, none⟩ = some u := by
  obtain ⟨ad, e, hb, hc⟩ := h.2 hn
  have hl : 0 < xs.length := by rw [h.1]; exact Nat.mul_pos hn hs
  have h0 := hc 0 _ (List.getElem?_eq_getElem hl)
  obtain ⟨b, off, spot⟩ := ad
  have hs : spot = none := by simpa [Addr.add] using World.cell?_spot h0
  subst hs
  refine ⟨b, off, e, hb, fun j u hu => ?_⟩
  rw [← add_lit]
  exact hc j u hu
/-- A table of a row of tables. -/
theorem tab_at {w : World} {B n : Nat} {A : Option Addr} {T : List (Int × Bool)} (h : Reads w B 2 A n (T.flatMap tc)) {k : Nat} (hk : k < T.length) : n = T.length ∧ ∃ b off, A = some ⟨b, off, none⟩ ∧ b < B ∧ w.cell? ⟨b, off + k * 2, none⟩ = some (.int .i64 T[k].1) ∧ w.cell? ⟨b, off + k * 2 + 1, none⟩ = some (.bool T[k].2) := by
  have hl := h.1
  rw [flat_len tc 2 tc_len] at hl
  obtain ⟨b, off, hA, hb, hc⟩ := h.formN (by omega) (by decide)
  refine ⟨by omega, b, off, hA, hb, ?_, ?_⟩
  · have := hc (k * 2 + 0) _ (flat_get tc 2 tc_len T k 0 hk (by decide))
    simpa using this
  · have := hc (k * 2 + 1) _ (flat_get tc 2 tc_len T k 1 hk (by decide))
    rw [← Nat.add_assoc] at this
    exact this
theorem tabs_n {w : World} {B n : Nat} {A : Option Addr} {T : List (Int × Bool)} (h : Reads w B 2 A n (T.flatMap tc)) : T.length = n := by
  have hl := h.1
  rw [flat_len tc 2 tc_len] at hl
  omega

/-- 'a[i]' of an array of structs by value. -/
theorem run_index_array {P : Program} (w : World) (t e : TypeId) (n m : Nat) (cs : Array Value) (i : Nat) (h : P.underlying t = some (.array n e)) (hz : ∀ w, (sizeOf e).run P w = .ok m w) (hg : ∀ w, (isAgg e).run P w = .ok true w) (h1 : i < n) :
    (Instr.index t (.agg cs) (.int .i64 (i : Int))).run P w = .ok (.agg (cs.extract (i * m) (i * m + m))) w := by
  have hn : (0 ≤ (i : Int) ∧ (i : Int) < (n : Int)) := by omega
  simp [Instr.index, run_underlying h, asIntOf, hn, hz, hg, h1, go_sem]
theorem stamps_at (x0 x1 x2 x3 x4 x5 x6 x7 x8 : Value) (w : World) :
    (Instr.index 89 (.agg #[x0, x1, x2, x3, x4, x5, x6, x7, x8]) (.int .i64 0)).run Try.prog w = .ok (.agg #[x0, x1, x2]) w ∧
    (Instr.index 89 (.agg #[x0, x1, x2, x3, x4, x5, x6, x7, x8]) (.int .i64 1)).run Try.prog w = .ok (.agg #[x3, x4, x5]) w ∧
    (Instr.index 89 (.agg #[x0, x1, x2, x3, x4, x5, x6, x7, x8]) (.int .i64 2)).run Try.prog w = .ok (.agg #[x6, x7, x8]) w := by
  have H := fun i hi => run_index_array (P := Try.prog) w 89 24 3 3 #[x0, x1, x2, x3, x4, x5, x6, x7, x8] i Try.underlying89 (fun _ => by kernel_rfl) (fun _ => by kernel_rfl) hi
  exact ⟨H 0 (by decide), H 1 (by decide), H 2 (by decide)⟩

def VpRel (w : World) (g : Nat) (v : Ver) (tv : Value) (t : TypeId) (v3 vi : Value) (wr : World) : Prop :=
  ∃ k : Nat, vi = .int .i64 k ∧ k ≤ v.tabs.length ∧ Own wr (g + 1) v3 (vhead v ++ (v.tabs.take k).flatMap tput) ∧ Blk wr g t (verC v tv) ∧ Below w.heap.size w wr ∧ (vhead v ++ (v.tabs.take k).flatMap tput).length ≤ 27 + 18 * k

set_option maxRecDepth 100000 in
set_option maxHeartbeats 4000000 in
theorem verse_Put (v : Ver) (A : Option Addr) (n c : Nat) (hi : v.In) (w : World) (hr : Reads w w.heap.size 2 A n (v.tabs.flatMap tc)) (hn : n ≤ 100000) :
    Calls Try.prog 13 #[.agg (verC v (.slice A n c))] w (Fresh w (vput v)) := by
  have hll := tabs_n hr
  have BK := Blk.new w 26 (verC v (.slice A n c))
  have hW : (w.alloc (.cells (verC v (.slice A n c)) 26)).heap.size = w.heap.size + 1 := by simp
  have hB : Below w.heap.size w (w.alloc (.cells (verC v (.slice A n c)) 26)) := (Below.refl _ _).alloc (Nat.le_refl _) _
  have HI := Lib.hid hi
  have HR := Lib.hid hr
  have HLL := Lib.hid hll
  have HW := Lib.hid hW
  have hWs : w.heap.size < (w.alloc (.cells (verC v (.slice A n c)) 26)).heap.size := by omega
  clear hi hr hll hW
  go_enter Try.func13, Try.ntmps13
  go_upto_region 1 with fail
  generalize w.alloc (.cells (verC v (.slice A n c)) 26) = W at *
  have q0 : ∀ p : Kept (· < W.heap.size) W.drew, p.v.cell? ⟨w.heap.size, 0, none⟩ = some (.int .i64 v.log) := fun p => p.h.cell hWs (BK.drew.cell 0)
  have q1 : ∀ p : Kept (· < W.heap.size) W.drew, p.v.cell? ⟨w.heap.size, 1, none⟩ = some (.int .i64 v.next) := fun p => p.h.cell hWs (BK.drew.cell 1)
  have q2 : ∀ p : Kept (· < W.heap.size) W.drew, p.v.cell? ⟨w.heap.size, 2, none⟩ = some (.slice A n c) := fun p => p.h.cell hWs (BK.drew.cell 2)
  have hWd : W.heap.size ≤ W.drew.heap.size := Nat.le_refl _
  have l0 := wputI_len v.log HI.out.log
  have l1 := wputI_len v.next HI.out.next
  refine wp_region_mixDk (M := []) (· < W.heap.size) [0, 1, 3, 4, 6, 7, 8, 2, 5, 9, 10] (by kernel_rfl) (by kernel_rfl) ?_
  iterate 7 (refine mix_calmDk rfl rfl ?_; go_big_quiet_step (fail); refine wpQuiet_nil ?_)
  refine mix_loudDk rfl (by kernel_rfl) rfl ?_
  intro K1 hK1
  have HK := Lib.hid hK1
  clear hK1 q0 q1 q2
  go_wp2_with fail
  refine (wire_Put W.drew W.heap.size (.slice none 0 0) [] v.log (Own.nil_ _ _) hWd HI.out.log (by simp)).mono ?_
  rintro x w1 ⟨v1, rfl, O1, G1, -⟩
  rw [List.nil_append] at O1
  have HS := Lib.hid (stand_own (N := W.heap.size) (Own.nil_ W.drew W.heap.size) (Nat.le_refl _) G1)
  have hs1 := Nat.le_trans hWd G1.size
  replace BK := HS.out.blk hWs BK.drew
  have HO1 := Lib.hid O1
  clear O1 G1
  go_wp2_with fail
  refine HK.out _ _ (HS.out) ?_
  clear HK
  refine mix_loudDk rfl (by kernel_rfl) rfl ?_
  intro K1 hK1
  have HK := Lib.hid hK1
  clear hK1 
  go_wp2_with fail
  refine (wire_Put w1 W.heap.size v1 (wputI v.log) v.next HO1.out hs1 HI.out.next (by omega)).mono ?_
  rintro x w2 ⟨v2, rfl, O2, G2, -⟩
  have HS2 := Lib.hid (stand_own HO1.out (Nat.le_refl _) G2)
  have hs2 := Nat.le_trans hs1 G2.size
  replace BK := HS2.out.blk hWs BK
  have HO2 := Lib.hid O2
  clear O2 G2 HO1
  go_wp2_with fail
  refine HK.out _ _ (HS2.out) ?_
  clear HK
  refine mix_loudDk rfl (by kernel_rfl) rfl ?_
  intro K1 hK1
  have HK := Lib.hid hK1
  clear hK1 
  go_wp2_with fail
  refine (wire_Put w2 W.heap.size v2 (wputI v.log ++ wputI v.next) n HO2.out hs2 (by omega) (by rw [List.length_append]; omega)).mono ?_
  rintro x w3 ⟨v3, rfl, O3, G3, -⟩
  have HS3 := Lib.hid (stand_own HO2.out (Nat.le_refl _) G3)
  have hs3 := Nat.le_trans hs2 G3.size
  replace BK := HS3.out.blk hWs BK
  have HO3 := Lib.hid O3
  clear O3 G3 HO2
  go_wp2_with fail
  refine HK.out _ _ (HS3.out) ?_
  clear HK
  iterate 1 (refine mix_calmDk rfl rfl ?_; go_big_quiet_step (fail); refine wpQuiet_nil ?_)
  refine mix_endDk ?_
  have hst := HS.out.trans (HS2.out.trans HS3.out)
  replace hB : Below w.heap.size w w3 := hB.trans (below_undrew (hst.below (B := w.heap.size) (fun k hk => Nat.lt_trans hk hWs) (Nat.le_trans (Nat.le_of_lt hWs) hWd)))
  rw [HW.out] at HO3 hs3
  have l2 := wputI_len (n : Int) (by omega)
  have c2 : w3.cell? ⟨w.heap.size, 2, none⟩ = some (.slice A n c) := BK.cell 2
  clear hst HS HS2 HS3 hs1 hs2 hWd
  go_wp2_with fail
  clear c2
  go_loopw [3, 5, 21] (fun v3 _ v21 wr => VpRel w w.heap.size v (.slice A n c) 26 v3 v21 wr) (fun _ _ v21 _ => n - (RowKit.intOf v21).toNat)
  case atStart => exact ⟨0, rfl, Nat.zero_le _, by simpa [vhead, HLL.out] using HO3.out, BK, hB, by simp [vhead, HLL.out]; omega⟩
  case round =>
    clear HO3 BK hB hs3
    obtain ⟨k, rfl, hk, O, BK, hB, hlen⟩ := hrel
    rw [HLL.out] at hk
    have HO := Lib.hid O
    have HLEN := Lib.hid hlen
    clear O hlen
    by_cases hkn : k < n
    · have hkT : k < v.tabs.length := by have := HLL.out; omega
      obtain ⟨-, b, off, hA, hb, t0, t1⟩ := tab_at (HR.out.below hB) hkT
      subst hA
      have hid := HI.out.tabs v.tabs[k] (List.getElem_mem hkT)
      have htl := tput_len v.tabs[k] hid
      have HF := Lib.hid (take_flat v.tabs k hkT)
      obtain ⟨id, rp, hid2⟩ : ∃ id rp, v.tabs[k] = (id, rp) := ⟨_, _, rfl⟩
      rw [hid2] at t0 t1 hid htl HF
      simp only [] at t0 t1 hid htl
      have HR9 := Lib.hid HR.out
      clear hid2
      go_upto_region 5 with fail
      have hne := Lib.hid (fun q (e : u3.ownBlock = some q) => HO.out.lt q e)
      have BT := Blk.new wr 71 #[.int .i64 id, .bool rp]
      have hBs := hB.size
      have hlt := BK.lt
      replace BK := BK.alloc (.cells #[.int .i64 id, .bool rp] 71)
      replace hB := hB.alloc hB.size (.cells #[.int .i64 id, .bool rp] 71)
      replace HO := Lib.hid (HO.out.alloc (.cells #[.int .i64 id, .bool rp] 71))
      have hsz : wr.heap.size < (wr.alloc (.cells #[.int .i64 id, .bool rp] 71)).heap.size := by simp
      generalize wr.alloc (.cells #[.int .i64 id, .bool rp] 71) = W1 at *
      have hS1 : Hid (Outer W1.heap.size u3 wr.heap.size) := Lib.hid ⟨hsz, fun e => by have := (hne.out _ e).2; omega⟩
      have hS2 : Hid (Outer W1.heap.size u3 w.heap.size) := Lib.hid ⟨by omega, fun e => by have := (hne.out _ e).1; omega⟩
      have q0 : ∀ p : Kept (Outer W1.heap.size u3) W1.drew, p.v.cell? ⟨wr.heap.size, 0, none⟩ = some (.int .i64 id) := fun p => p.h.cell hS1.out (BT.drew.cell 0)
      have q1 : ∀ p : Kept (Outer W1.heap.size u3) W1.drew, p.v.cell? ⟨wr.heap.size, 1, none⟩ = some (.bool rp) := fun p => p.h.cell hS1.out (BT.drew.cell 1)
      have hWd : W1.heap.size ≤ W1.drew.heap.size := Nat.le_refl _
      obtain ⟨L, hL⟩ : ∃ L, vhead v ++ (v.tabs.take k).flatMap tput = L := ⟨_, rfl⟩
      have HL := Lib.hid hL
      rw [hL] at HO HLEN
      have hLl : L.length ≤ 27 + 18 * k := HLEN.out
      clear hL t0 t1
      refine wp_region_mixDk (M := []) (Outer W1.heap.size u3) [0, 1, 2, 4, 5, 3, 6, 7, 8] (by kernel_rfl) (by kernel_rfl) ?_
      iterate 5 (refine mix_calmDk rfl rfl ?_; go_big_quiet_step (fail); refine wpQuiet_nil ?_)
      refine mix_loudDk rfl (by kernel_rfl) rfl ?_
      intro K1 hK1
      have HK := Lib.hid hK1
      clear hK1 q0 q1
      go_wp2_with fail
      refine (wire_Put W1.drew (w.heap.size + 1) u3 L id HO.out (show w.heap.size + 1 ≤ W1.heap.size by omega) hid (by omega)).mono ?_
      rintro x w4 ⟨v4, rfl, O4, G4, L4⟩
      have hs4 := Nat.le_trans hWd G4.size
      have HG4 := Lib.hid G4
      have HL4 := Lib.hid L4
      have HO4 := Lib.hid O4
      clear O4 G4 L4
      go_wp2_with fail
      refine HK.out _ _ (stand_puts hWd (.inl rfl) HG4.out) ?_
      clear HK
      refine mix_loudDk rfl (by kernel_rfl) rfl ?_
      intro K1 hK1
      have HK := Lib.hid hK1
      clear hK1 
      go_wp2_with fail
      refine (verse_flag rp w4).mono ?_
      rintro x w5 ⟨rfl, rfl⟩
      go_wp2_with fail
      refine HK.out _ _ (Stand.refl _ _) ?_
      clear HK
      have hb01 := b01_le rp
      refine mix_loudDk rfl (by kernel_rfl) rfl ?_
      intro K1 hK1
      have HK := Lib.hid hK1
      clear hK1 
      go_wp2_with fail
      refine (wire_Put w4 (w.heap.size + 1) v4 (L ++ wputI id) (b01 rp) HO4.out (by omega) hb01 (by have := wputI_len id hid; rw [List.length_append]; omega)).mono ?_
      rintro x w6 ⟨v6, rfl, O6, G6, L6⟩
      have HG6 := Lib.hid G6
      have HO6 := Lib.hid O6
      clear O6 G6 L6
      go_wp2_with fail
      refine HK.out _ _ (stand_puts hs4 (by rcases HL4.out with h | ⟨g, h, h'⟩; exact .inl h; exact .inr ⟨g, h, h'⟩) HG6.out) ?_
      clear HK
      iterate 1 (refine mix_calmDk rfl rfl ?_; go_big_quiet_step (fail); refine wpQuiet_nil ?_)
      refine mix_endDk ?_
      have BK4 := BK.drew.grown HG4.out (fun e => by have := (hne.out _ e.symm).1; omega)
      have BK6 := Lib.hid (BK4.grown HG6.out (fun e => by have := (HO4.out.lt _ e.symm).1; omega))
      have hB4 := Below.grown (below_drewN hB 1) HG4.out hB.size (fun q hq => by have := (hne.out _ hq).1; omega)
      have hB6 := Lib.hid (Below.grown hB4 HG6.out hB4.size (fun q hq => by have := (HO4.out.lt _ hq).1; omega))
      have hfin : (L ++ wputI id) ++ wputI (b01 rp) = vhead v ++ (v.tabs.take (k + 1)).flatMap tput := by rw [HF.out, ← List.append_assoc, HL.out]; simp [tput]
      rw [hfin] at HO6
      have hfl : (vhead v ++ (v.tabs.take (k + 1)).flatMap tput).length ≤ 27 + 18 * (k + 1) := by
        rw [HF.out, ← List.append_assoc, List.length_append, HL.out]
        omega
      have HFL := Lib.hid hfl
      clear BK4 hB4 hfin hfl hB BK
      go_wp2_with fail
      go_roundw
      case rel => exact ⟨k + 1, by go_num, by omega, HO6.out, BK6.out, hB6.out, HFL.out⟩
      case measure => simp [RowKit.intOf]; omega
    · have hkn : k = n := by omega
      subst hkn
      rw [List.take_of_length_le (by rw [HLL.out]; exact Nat.le_refl _)] at HO HLEN
      have f0 : wr.cell? ⟨w.heap.size, 3, none⟩ = some (.int .i64 v.fl.1) := BK.cell 3
      have f1 : wr.cell? ⟨w.heap.size, 4, none⟩ = some (.int .i64 v.fl.2.1) := BK.cell 4
      have f2 : wr.cell? ⟨w.heap.size, 5, none⟩ = some (.int .i64 v.fl.2.2) := BK.cell 5
      have f3 : wr.cell? ⟨w.heap.size, 6, none⟩ = some (.int .i64 v.fe.1) := BK.cell 6
      have f4 : wr.cell? ⟨w.heap.size, 7, none⟩ = some (.int .i64 v.fe.2.1) := BK.cell 7
      have f5 : wr.cell? ⟨w.heap.size, 8, none⟩ = some (.int .i64 v.fe.2.2) := BK.cell 8
      have f6 : wr.cell? ⟨w.heap.size, 9, none⟩ = some (.int .i64 v.se.1) := BK.cell 9
      have f7 : wr.cell? ⟨w.heap.size, 10, none⟩ = some (.int .i64 v.se.2.1) := BK.cell 10
      have f8 : wr.cell? ⟨w.heap.size, 11, none⟩ = some (.int .i64 v.se.2.2) := BK.cell 11
      have hix := fun w => stamps_at (.int .i64 v.fl.1) (.int .i64 v.fl.2.1) (.int .i64 v.fl.2.2) (.int .i64 v.fe.1) (.int .i64 v.fe.2.1) (.int .i64 v.fe.2.2) (.int .i64 v.se.1) (.int .i64 v.se.2.1) (.int .i64 v.se.2.2) w
      have i0 := fun w => (hix w).1
      have i1 := fun w => (hix w).2.1
      have i2 := fun w => (hix w).2.2
      clear hix
      have hb1 := Nat.succ_le_of_lt BK.lt
      obtain ⟨L, hL⟩ : ∃ L, vhead v ++ v.tabs.flatMap tput = L := ⟨_, rfl⟩
      have HLX := Lib.hid (show vput v = (((L ++ sput v.fl) ++ sput v.fe) ++ sput v.se) ++ wputI (b01 v.quar) by rw [← hL]; rfl)
      rw [hL] at HO HLEN
      have hLl : L.length ≤ 27 + 18 * k := HLEN.out
      have s1 := sput_len v.fl HI.out.fl.1 HI.out.fl.2.1 HI.out.fl.2.2
      have s2 := sput_len v.fe HI.out.fe.1 HI.out.fe.2.1 HI.out.fe.2.2
      have s3 := sput_len v.se HI.out.se.1 HI.out.se.2.1 HI.out.se.2.2
      clear hL
      go_wp2_with fail
      clear f0 f1 f2 f3 f4 f5 f6 f7 f8
      refine wp_loop_rounds 4 ?_
      rw [rounds_succ]
      go_wp2_with fail
      replace BK := BK.alloc (.cells #[.int .i64 v.fl.1, .int .i64 v.fl.2.1, .int .i64 v.fl.2.2] 24)
      replace hB := hB.alloc hB.size (.cells #[.int .i64 v.fl.1, .int .i64 v.fl.2.1, .int .i64 v.fl.2.2] 24)
      replace HO := Lib.hid (HO.out.alloc (.cells #[.int .i64 v.fl.1, .int .i64 v.fl.2.1, .int .i64 v.fl.2.2] 24))
      replace hb1 := Nat.succ_le_of_lt BK.lt
      refine (verse_put _ (w.heap.size + 1) u3 (L) v.fl.1 v.fl.2.1 v.fl.2.2 HO.out hb1 HI.out.fl.1 HI.out.fl.2.1 HI.out.fl.2.2 (by (repeat rw [List.length_append]); omega)).mono ?_
      rintro x w7 ⟨v7, rfl, O9, G9, -⟩
      replace BK := BK.grown G9 (fun e => by have := (HO.out.lt _ e.symm).1; omega)
      replace hB := Below.grown hB G9 hB.size (fun q hq => by have := (HO.out.lt _ hq).1; omega)
      replace HO := Lib.hid O9
      clear O9 G9
      go_wp2_with fail
      rw [rounds_succ]
      go_wp2_with fail
      replace BK := BK.alloc (.cells #[.int .i64 v.fe.1, .int .i64 v.fe.2.1, .int .i64 v.fe.2.2] 24)
      replace hB := hB.alloc hB.size (.cells #[.int .i64 v.fe.1, .int .i64 v.fe.2.1, .int .i64 v.fe.2.2] 24)
      replace HO := Lib.hid (HO.out.alloc (.cells #[.int .i64 v.fe.1, .int .i64 v.fe.2.1, .int .i64 v.fe.2.2] 24))
      replace hb1 := Nat.succ_le_of_lt BK.lt
      refine (verse_put _ (w.heap.size + 1) v7 (L ++ sput v.fl) v.fe.1 v.fe.2.1 v.fe.2.2 HO.out hb1 HI.out.fe.1 HI.out.fe.2.1 HI.out.fe.2.2 (by (repeat rw [List.length_append]); omega)).mono ?_
      rintro x w8 ⟨v8, rfl, O9, G9, -⟩
      replace BK := BK.grown G9 (fun e => by have := (HO.out.lt _ e.symm).1; omega)
      replace hB := Below.grown hB G9 hB.size (fun q hq => by have := (HO.out.lt _ hq).1; omega)
      replace HO := Lib.hid O9
      clear O9 G9
      go_wp2_with fail
      rw [rounds_succ]
      go_wp2_with fail
      replace BK := BK.alloc (.cells #[.int .i64 v.se.1, .int .i64 v.se.2.1, .int .i64 v.se.2.2] 24)
      replace hB := hB.alloc hB.size (.cells #[.int .i64 v.se.1, .int .i64 v.se.2.1, .int .i64 v.se.2.2] 24)
      replace HO := Lib.hid (HO.out.alloc (.cells #[.int .i64 v.se.1, .int .i64 v.se.2.1, .int .i64 v.se.2.2] 24))
      replace hb1 := Nat.succ_le_of_lt BK.lt
      refine (verse_put _ (w.heap.size + 1) v8 ((L ++ sput v.fl) ++ sput v.fe) v.se.1 v.se.2.1 v.se.2.2 HO.out hb1 HI.out.se.1 HI.out.se.2.1 HI.out.se.2.2 (by (repeat rw [List.length_append]); omega)).mono ?_
      rintro x w9 ⟨v9, rfl, O9, G9, -⟩
      replace BK := BK.grown G9 (fun e => by have := (HO.out.lt _ e.symm).1; omega)
      replace hB := Below.grown hB G9 hB.size (fun q hq => by have := (HO.out.lt _ hq).1; omega)
      replace HO := Lib.hid O9
      clear O9 G9
      have f9 : w9.cell? ⟨w.heap.size, 12, none⟩ = some (.bool v.quar) := BK.cell 12
      replace hb1 := Nat.succ_le_of_lt BK.lt
      go_wp2_with fail
      rw [rounds_succ]
      go_wp2_with fail
      refine (verse_flag v.quar w9).mono ?_
      rintro x w0 ⟨rfl, rfl⟩
      have hq := b01_le v.quar
      clear i0 i1 i2
      go_wp2_with fail
      refine (wire_Put w9 (w.heap.size + 1) v9 (((L ++ sput v.fl) ++ sput v.fe) ++ sput v.se) (b01 v.quar) HO.out hb1 hq (by (repeat rw [List.length_append]); omega)).mono ?_
      rintro x w10 ⟨v10, rfl, O9, G9, -⟩
      replace hB := Below.grown hB G9 hB.size (fun q hq => by have := (HO.out.lt _ hq).1; omega)
      go_wp2_with fail
      go_ret
      exact ⟨v10, rfl, by rw [HLX.out]; exact O9.base_le (Nat.le_succ _), hB⟩
end Go.Proofs.Ytedegdojbhegdaa
