/- Contract of a pattern's skip. -/
import Derived.Test.YtedegdojbhegdaaDoorGloD
import Derived.Test.YtedegdojbhegdaaDoorGloQ
import Derived.Test.YtedegdojbhegdaaDoorOwnBo
namespace Go.Proofs.YtedegdojbhegdaaDoor
open Go.RowKit Go.Sort

theorem psL_at {w : World} {B n : Nat} {A : Option Addr} {L : List PS} (h : PatR psL 4 w B A n L) {k : Nat} (hk : k < L.length) : ∃ b off, A = some ⟨b, off, none⟩ ∧ b < B ∧ w.cell? ⟨b, off + k * 4, none⟩ = some (.bool (L[k].p.kind == 3)) ∧ w.cell? ⟨b, off + k * 4 + 1, none⟩ = some (.bool (L[k].p.kind == 2)) ∧ w.cell? ⟨b, off + k * 4 + 2, none⟩ = some (.bool (L[k].p.kind == 1)) ∧ w.cell? ⟨b, off + k * 4 + 3, none⟩ = some (.slice L[k].A L[k].n L[k].c) := by
  have hl := h.reads.1
  rw [flat_len psL 4 psL_len] at hl
  obtain ⟨b, off, hA, hb, hc⟩ := h.reads.formk (by omega) (by decide)
  have g := fun j hj u hu => hc (k * 4 + j) u ((flat_get psL 4 psL_len L k j hk hj).trans hu)
  refine ⟨b, off, hA, hb, ?_, ?_, ?_, ?_⟩
  · have := g 0 (by decide) _ rfl
    simpa using this
  · have := g 1 (by decide) _ rfl
    rw [← Nat.add_assoc] at this
    exact this
  · have := g 2 (by decide) _ rfl
    rw [← Nat.add_assoc] at this
    exact this
  · have := g 3 (by decide) _ rfl
    rw [← Nat.add_assoc] at this
    exact this
theorem PatR.n_eq {w : World} {B n : Nat} {A : Option Addr} {L : List PS} (h : PatR psL 4 w B A n L) : L.length = n := by
  have hl := h.reads.1
  rw [flat_len psL 4 psL_len] at hl
  omega
theorem rowP_map {L : List PS} {k : Nat} (hk : k < L.length) : rowP (L.map PS.p) k = (L[k].p.kind == 3) := by
  unfold rowP
  rw [List.getElem?_map, List.getElem?_eq_getElem hk]
  rfl
theorem oneP_map {L : List PS} {k : Nat} (hk : k < L.length) (r : Nat) : oneP (L.map PS.p) k r = hasP L[k].p r := by
  unfold oneP
  rw [List.getElem?_map, List.getElem?_eq_getElem hk]
  rfl
theorem ob_at {w : World} {base g m cap : Nat} {f : Nat → Bool} (h : OwnB w base (.slice (some ⟨g, 0, none⟩) m cap) (bl_ m f)) (i : Nat) (hi : i < m) : w.cell? ⟨g, i, none⟩ = some (.bool (f i)) := by
  have := OwnB.cell_at h i (by rw [bl_len]; exact hi)
  rw [bl_at] at this
  exact this

set_option maxRecDepth 100000 in
set_option maxHeartbeats 2000000 in
theorem glob_skip (A : Option Addr) (n c : Nat) (t : ByteArray) (L : List PS) (w : World) (B base g cap : Nat) (f : Nat → Bool) (hp : PatR psL 4 w B A n L) (hB0 : B ≤ base) (hg : base ≤ g) (ho : OwnB w base (.slice (some ⟨g, 0, none⟩) (n + 1) cap) (bl_ (n + 1) f)) (hn : n ≤ 1000000) :
    Calls Tryd.prog 52 #[.agg #[.slice A n c, .string t], .slice (some ⟨g, 0, none⟩) (n + 1) cap] w fun x w' => x = .returned (.tuple #[]) ∧ OwnB w' base (.slice (some ⟨g, 0, none⟩) (n + 1) cap) (bl_ (n + 1) (skF (rowP (L.map PS.p)) f)) ∧ w.grownBy w' (some g) := by
  have hl := hp.n_eq
  have hgl : g < w.heap.size := (World.ownsRow.lt ho g rfl).2
  have BP := Blk.new w 35 #[.slice A n c, .string t]
  have hG : w.grownBy (w.alloc (.cells #[.slice A n c, .string t] 35)) (some g) := ⟨rfl, rfl, rfl, by simp, fun k hk _ => Below.heap_alloc w _ k hk⟩
  have ho1 := ho.alloc (.cells #[.slice A n c, .string t] 35)
  have HP := Lib.hid hp
  have HL := Lib.hid hl
  clear hp hl
  have q0 := BP.cell 0
  go_enter Tryd.func52, Tryd.ntmps52
  go_wp2_with fail
  have HO : Hid (OwnB (w.alloc (.cells #[.slice A n c, .string t] 35)) base (.slice (some ⟨g, 0, none⟩) (n + 1) cap) (bl_ (n + 1) (skK (rowP (L.map PS.p)) f 0))) := Lib.hid (by rw [bl_congr (g := f) (fun i _ => skK_zero _ _ i)]; exact ho1)
  go_loopw [9] (fun v9 wr => ∃ k : Nat, v9 = .int .i64 k ∧ k ≤ n ∧ OwnB wr base (.slice (some ⟨g, 0, none⟩) (n + 1) cap) (bl_ (n + 1) (skK (rowP (L.map PS.p)) f k)) ∧ w.grownBy wr (some g)) (fun v9 _ => n - (RowKit.intOf v9).toNat)
  case atStart => exact ⟨0, rfl, Nat.zero_le _, HO.out, hG⟩
  case round =>
    clear hG ho1 ho HO q0 BP
    obtain ⟨k, rfl, hk, hO, hG⟩ := hrel
    by_cases hkn : k < n
    · have hkl : k < L.length := by have := HL.out; omega
      have hPr : PatR psL 4 wr B A n L := HP.out.keep fun p hp => World.cell?_of_block (hG.block p.block (by omega) (fun e => by injection e with e; omega))
      obtain ⟨b, off, hA, hb, d0, d1, d2, d3⟩ := psL_at hPr hkl
      have hrow := rowP_map hkl
      obtain ⟨b3, hb3⟩ : ∃ x, (L[k].p.kind == 3) = x := ⟨_, rfl⟩
      obtain ⟨b2, hb2⟩ : ∃ x, (L[k].p.kind == 2) = x := ⟨_, rfl⟩
      obtain ⟨b1, hb1⟩ : ∃ x, (L[k].p.kind == 1) = x := ⟨_, rfl⟩
      rw [hb3] at d0 hrow
      rw [hb2] at d1
      rw [hb1] at d2
      generalize L[k].A = A7 at *
      generalize L[k].n = n7 at *
      generalize L[k].c = c7 at *
      have e0 := ob_at hO k (by omega)
      have hsk : skK (rowP (L.map PS.p)) f k k = skF (rowP (L.map PS.p)) f k := by unfold skK; rw [if_pos (Nat.le_refl _)]
      rw [hsk] at e0
      obtain ⟨u, hu⟩ : ∃ u, skF (rowP (L.map PS.p)) f k = u := ⟨_, rfl⟩
      rw [hu] at e0
      have HU := Lib.hid hu
      have HRW := Lib.hid hrow
      have hgr : g < wr.heap.size := Nat.lt_of_lt_of_le hgl hG.size
      have e1 := ob_at hO (k + 1) (by omega)
      have fz := OwnB.frozen_at hO (k + 1)
      have hO2 := hO.alloc (.cells #[.bool b3, .bool b2, .bool b1, .slice A7 n7 c7] 76)
      have hG2 : w.grownBy (wr.alloc (.cells #[.bool b3, .bool b2, .bool b1, .slice A7 n7 c7] 76)) (some g) := grown_trans' hG ⟨rfl, rfl, rfl, by simp, fun k hk _ => Below.heap_alloc wr _ k hk⟩
      rw [hA]
      clear hsk hu hrow hb3 hb2 hb1 hA
      cases b3
      · go_wp2_with fail
        go_roundw
        case rel => exact ⟨k + 1, by go_num, by omega, by rw [bl_congr (g := skK (rowP (L.map PS.p)) f k) (fun i _ => skK_step_no (by rw [HRW.out]; rfl) i)]; exact hO2, hG2⟩
        case measure => simp [RowKit.intOf]; omega
      · cases u
        · go_wp2_with fail
          go_roundw
          case rel => exact ⟨k + 1, by go_num, by omega, by rw [bl_congr (g := skK (rowP (L.map PS.p)) f k) (fun i _ => skK_step_no (by rw [HRW.out, HU.out]; rfl) i)]; exact hO2, hG2⟩
          case measure => simp [RowKit.intOf]; omega
        · have hO3 := OwnB.set_at hO (k + 1) true
          rw [bl_set] at hO3
          have hO4 := OwnB.alloc hO3.1 (.cells #[.bool true, .bool b2, .bool b1, .slice A7 n7 c7] 76)
          have hG4 : w.grownBy ((wr.setCell ⟨g, k + 1, none⟩ (.bool true)).alloc (.cells #[.bool true, .bool b2, .bool b1, .slice A7 n7 c7] 76)) (some g) := grown_trans' (grown_trans' hG hO3.2) ⟨rfl, rfl, rfl, by simp, fun k hk _ => Below.heap_alloc _ _ k hk⟩
          go_wp2_with fail
          go_roundw
          case rel => exact ⟨k + 1, by go_num, by omega, by rw [bl_congr (g := fun j => if j = k + 1 then true else skK (rowP (L.map PS.p)) f k j) (fun i _ => skK_step_yes (by rw [HRW.out, HU.out]; rfl) i)]; exact hO4, hG4⟩
          case measure => simp [RowKit.intOf]; omega
    · have hke : k = n := by omega
      subst hke
      have HO : Hid (OwnB wr base (.slice (some ⟨g, 0, none⟩) (k + 1) cap) (bl_ (k + 1) (skF (rowP (L.map PS.p)) f))) := Lib.hid (by
        rw [bl_congr (g := skK (rowP (L.map PS.p)) f k) (fun i hi => by unfold skK; rw [if_pos (by omega)])]
        exact hO)
      go_wp2_with fail
      exact bodyPost_end (results_none rfl _ _ _) rfl ⟨rfl, HO.out, hG⟩
end Go.Proofs.YtedegdojbhegdaaDoor
