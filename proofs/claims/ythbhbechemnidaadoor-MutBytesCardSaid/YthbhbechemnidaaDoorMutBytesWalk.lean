/- The walk of the law MutBytes: it returns true, and nothing that was there ahead of the call has turned. -/
import Derived.Test.YthbhbechemnidaaDoorMutR
import Derived.Test.YthbhbechemnidaaDoorMutK
import Derived.Test.YthbhbechemnidaaDoorMutL
import Derived.Test.YthbhbechemnidaaDoorOpenMut
namespace Go.Proofs.YthbhbechemnidaaDoor
open Go.RowKit Go.Sort

theorem muti_of {m : Mut} {n : Nat} (hw : MutW m) (hg : great7 m n = false) (hl : m.ov.length = n) : MutI m := by
  obtain ⟨z1, z2, z3, z4⟩ := great7_no hg
  obtain ⟨⟨a, b, c, d, e⟩, _⟩ := hw
  exact ⟨a.2, b.2, c.2, ⟨d.1.2, d.2.1.2, d.2.2.2⟩, fun s hs => ⟨(e s hs).1.2, (e s hs).2.1.2, (e s hs).2.2.2⟩, by omega, by omega, by omega, by omega⟩
/-- What the law's first loop has shown of a mutation. -/
def MbOk (e : MutS) : Prop := great7 e.m e.n = false ∧ mrtB e.m = true
theorem rdM_of {w : World} {A : Option Addr} {n : Nat} {L : List MutS} (hr : Reads w w.heap.size 10 A n (L.flatMap mutL)) (hq : ∀ e ∈ L, MutQ w e) (hk : ∀ e ∈ L, e.n ≤ 1000000000) : RdM w A n (L.map (·.m)) :=
  ⟨L, rfl, hr, fun e he => ⟨(hq e he).2.2.2.1, fun _ _ => by simp⟩, fun e he => ⟨hk e he, (hq e he).2.2.1⟩⟩

def MbRel (w : World) (L : List MutS) (n : Nat) (v5 : Value) (wr : World) : Prop :=
  ∃ k : Nat, v5 = .int .i64 k ∧ k ≤ n ∧ (∀ (j : Nat) (e : MutS), j < k → L[j]? = some e → MbOk e) ∧ Below w.heap.size w wr

set_option maxRecDepth 100000 in
set_option maxHeartbeats 4000000 in
theorem mut_bytes_walk (w : World) (hT : Tabs w) (A0 : Option Addr) (n0 c0 : Nat) (l : List UInt8) (_ : n0 ≤ c0) (hc0 : c0 ≤ maxLen) (hl0 : l.length = n0) (hr0 : Reads w w.heap.size 1 A0 n0 (l.map vb)) (hA0 : A0 = none → c0 = 0)
    (A : Option Addr) (n c : Nat) (L : List MutS) (_ : n ≤ c) (hc : c ≤ maxLen) (_ : A = none → c = 0) (hl : L.length = n) (hq : ∀ e ∈ L, MutQ w e) (hr : Reads w w.heap.size 10 A n (L.flatMap mutL)) :
    Calls Tryd.prog 6 #[.slice A0 n0 c0, .slice A n c] w fun e w' => e = .returned (.bool true) ∧ Below w.heap.size w w' := by
  have hn : n ≤ 9223372036854775807 := by unfold maxLen at hc; omega
  have hn0 : n0 ≤ 9223372036854775807 := by unfold maxLen at hc0; omega
  by_cases h50 : 50 < n
  · have hd : decide (50 < (n : Int)) = true := by simp; omega
    clear h50 hr0 hr hq hl hl0 hA0 hT
    go_enter Tryd.func6, Tryd.ntmps6
    go_wp2_with fail
    go_ret
    exact ⟨rfl, Below.refl _ _⟩
  have hd : decide (50 < (n : Int)) = false := by simp; omega
  by_cases h1000 : 1000 < n0
  · have hd2 : decide (1000 < (n0 : Int)) = true := by simp; omega
    clear h50 h1000 hr0 hr hq hl hl0 hA0 hT
    go_enter Tryd.func6, Tryd.ntmps6
    go_wp2_with fail
    go_ret
    exact ⟨rfl, Below.refl _ _⟩
  have hd2 : decide (1000 < (n0 : Int)) = false := by simp; omega
  have hs50 : n ≤ 50 := by omega
  have hs1000 : n0 ≤ 1000 := by omega
  have HT := Lib.hid hT
  have HR0 := Lib.hid hr0
  have HL0 := Lib.hid hl0
  have HR := Lib.hid hr
  have HL := Lib.hid hl
  have HQ := Lib.hid hq
  have HA0 := Lib.hid hA0
  have hll0 : l.length ≤ 1000 := by omega
  clear hT hr0 hl0 hr hl hq hA0 h50 h1000 hn hn0 hc hc0
  have hB := Below.refl w.heap.size w
  go_enter Tryd.func6, Tryd.ntmps6
  go_wp2_with fail
  clear hd hd2
  go_loopw [5] (fun v5 wr => MbRel w L n v5 wr) (fun v5 _ => n - (RowKit.intOf v5).toNat)
  case atStart => exact ⟨0, rfl, Nat.zero_le _, fun j e h => absurd h (Nat.not_lt_zero _), hB⟩
  case round =>
    clear hB
    obtain ⟨k, rfl, hk, hall, hB⟩ := hrel
    have HALL := Lib.hid hall
    clear hall
    by_cases hkn : k < n
    · have hkL : k < L.length := by have := HL.out; omega
      obtain ⟨b, off, hA, hb, hc⟩ := mut_at HR.out hkL
      subst hA
      obtain ⟨x, hx⟩ : ∃ x, L[k]'hkL = x := ⟨_, rfl⟩
      have hqx := HQ.out _ (List.getElem_mem hkL)
      have hgx : L[k]? = some L[k] := List.getElem?_eq_getElem hkL
      rw [hx] at hqx hc hgx
      have HQX := Lib.hid hqx
      have HGX := Lib.hid hgx
      have HC := Lib.hid hc
      have hxl := stamps_n hqx.2.2.2.1
      have HXL := Lib.hid hxl
      clear hqx hgx hx hxl
      obtain ⟨gq, hg⟩ : ∃ g, great7 x.m x.n = g := ⟨_, rfl⟩
      obtain ⟨rq, hrq⟩ : ∃ g, mrtB x.m = g := ⟨_, rfl⟩
      have hrx : Reads wr w.heap.size 3 x.A x.n (x.m.ov.flatMap sc) := HQX.out.2.2.2.1.below hB
      have d0 : wr.cell? ⟨b, off + k * 10, none⟩ = some (.int .i64 x.m.tab) := (World.cell?_of_block (hB.block b hb)).trans (HC.out 0 _ (by decide) rfl)
      have d1 : wr.cell? ⟨b, off + k * 10 + 1, none⟩ = some (.int .i64 x.m.kind) := (World.cell?_of_block (hB.block b hb)).trans (HC.out 1 _ (by decide) rfl)
      have d2 : wr.cell? ⟨b, off + k * 10 + 2, none⟩ = some (.string x.m.key) := (World.cell?_of_block (hB.block b hb)).trans (HC.out 2 _ (by decide) rfl)
      have d3 : wr.cell? ⟨b, off + k * 10 + 3, none⟩ = some (.string x.m.en) := (World.cell?_of_block (hB.block b hb)).trans (HC.out 3 _ (by decide) rfl)
      have d4 : wr.cell? ⟨b, off + k * 10 + 4, none⟩ = some (.string x.m.val) := (World.cell?_of_block (hB.block b hb)).trans (HC.out 4 _ (by decide) rfl)
      have d5 : wr.cell? ⟨b, off + k * 10 + 5, none⟩ = some (.int .i64 x.m.exp) := (World.cell?_of_block (hB.block b hb)).trans (HC.out 5 _ (by decide) rfl)
      have d6 : wr.cell? ⟨b, off + k * 10 + 6, none⟩ = some (.int .i64 x.m.at_.1) := (World.cell?_of_block (hB.block b hb)).trans (HC.out 6 _ (by decide) rfl)
      have d7 : wr.cell? ⟨b, off + k * 10 + 7, none⟩ = some (.int .i64 x.m.at_.2.1) := (World.cell?_of_block (hB.block b hb)).trans (HC.out 7 _ (by decide) rfl)
      have d8 : wr.cell? ⟨b, off + k * 10 + 8, none⟩ = some (.int .i64 x.m.at_.2.2) := (World.cell?_of_block (hB.block b hb)).trans (HC.out 8 _ (by decide) rfl)
      have d9 : wr.cell? ⟨b, off + k * 10 + 9, none⟩ = some (.slice x.A x.n x.c) := (World.cell?_of_block (hB.block b hb)).trans (HC.out 9 _ (by decide) rfl)
      clear hc
      have CG := Lib.hid (law07_Great x.m x.A x.n x.c wr)
      rw [hg] at CG
      have HG := Lib.hid hg
      have HRQ := Lib.hid hrq
      clear hg hrq
      go_wp2_with fail
      refine CG.out.mono ?_
      clear CG
      rintro y w1 ⟨rfl, bX⟩
      replace hrx := hrx.below (bX.mono hB.size)
      replace hB := hB.trans (bX.mono hB.size)
      clear bX
      cases gq
      case true =>
        go_wp2_with fail
        go_ret
        exact ⟨rfl, hB⟩
      have d0 : w1.cell? ⟨b, off + k * 10, none⟩ = some (.int .i64 x.m.tab) := (World.cell?_of_block (hB.block b hb)).trans (HC.out 0 _ (by decide) rfl)
      have d1 : w1.cell? ⟨b, off + k * 10 + 1, none⟩ = some (.int .i64 x.m.kind) := (World.cell?_of_block (hB.block b hb)).trans (HC.out 1 _ (by decide) rfl)
      have d2 : w1.cell? ⟨b, off + k * 10 + 2, none⟩ = some (.string x.m.key) := (World.cell?_of_block (hB.block b hb)).trans (HC.out 2 _ (by decide) rfl)
      have d3 : w1.cell? ⟨b, off + k * 10 + 3, none⟩ = some (.string x.m.en) := (World.cell?_of_block (hB.block b hb)).trans (HC.out 3 _ (by decide) rfl)
      have d4 : w1.cell? ⟨b, off + k * 10 + 4, none⟩ = some (.string x.m.val) := (World.cell?_of_block (hB.block b hb)).trans (HC.out 4 _ (by decide) rfl)
      have d5 : w1.cell? ⟨b, off + k * 10 + 5, none⟩ = some (.int .i64 x.m.exp) := (World.cell?_of_block (hB.block b hb)).trans (HC.out 5 _ (by decide) rfl)
      have d6 : w1.cell? ⟨b, off + k * 10 + 6, none⟩ = some (.int .i64 x.m.at_.1) := (World.cell?_of_block (hB.block b hb)).trans (HC.out 6 _ (by decide) rfl)
      have d7 : w1.cell? ⟨b, off + k * 10 + 7, none⟩ = some (.int .i64 x.m.at_.2.1) := (World.cell?_of_block (hB.block b hb)).trans (HC.out 7 _ (by decide) rfl)
      have d8 : w1.cell? ⟨b, off + k * 10 + 8, none⟩ = some (.int .i64 x.m.at_.2.2) := (World.cell?_of_block (hB.block b hb)).trans (HC.out 8 _ (by decide) rfl)
      have d9 : w1.cell? ⟨b, off + k * 10 + 9, none⟩ = some (.slice x.A x.n x.c) := (World.cell?_of_block (hB.block b hb)).trans (HC.out 9 _ (by decide) rfl)
      have HI := Lib.hid (muti_of HQX.out.2.2.2.2 HG.out HXL.out)
      obtain ⟨z1, z2, z3, z4⟩ := great7_no HG.out
      have CR := Lib.hid (ref07_Right x.m x.A x.n x.c w1 (HT.out.in_ (Nat.le_refl _) hB) (hrx.more hB.size) (by omega) (by omega) (by omega) (by unfold maxLen; omega))
      rw [HRQ.out] at CR
      clear z1 z2 z3 z4
      go_wp2_with fail
      refine CR.out.mono ?_
      clear CR
      rintro y w2 ⟨rfl, bX⟩
      replace hrx := hrx.below (bX.mono hB.size)
      replace hB := hB.trans (bX.mono hB.size)
      clear bX
      cases rq
      case false =>
        go_wp2_with fail
        go_ret
        exact ⟨rfl, hB⟩
      go_upto_region 8 with fail
      clear d0 d1 d2 d3 d4 d5 d6 d7 d8 d9
      have e0 : ∀ p : Kept (· < w.heap.size) w2.drew, p.v.cell? ⟨b, off + k * 10, none⟩ = some (.int .i64 x.m.tab) := fun p => p.h.cell hb ((World.cell?_of_block (hB.block b hb)).trans (HC.out 0 _ (by decide) rfl))
      have e1 : ∀ p : Kept (· < w.heap.size) w2.drew, p.v.cell? ⟨b, off + k * 10 + 1, none⟩ = some (.int .i64 x.m.kind) := fun p => p.h.cell hb ((World.cell?_of_block (hB.block b hb)).trans (HC.out 1 _ (by decide) rfl))
      have e2 : ∀ p : Kept (· < w.heap.size) w2.drew, p.v.cell? ⟨b, off + k * 10 + 2, none⟩ = some (.string x.m.key) := fun p => p.h.cell hb ((World.cell?_of_block (hB.block b hb)).trans (HC.out 2 _ (by decide) rfl))
      have e3 : ∀ p : Kept (· < w.heap.size) w2.drew, p.v.cell? ⟨b, off + k * 10 + 3, none⟩ = some (.string x.m.en) := fun p => p.h.cell hb ((World.cell?_of_block (hB.block b hb)).trans (HC.out 3 _ (by decide) rfl))
      have e4 : ∀ p : Kept (· < w.heap.size) w2.drew, p.v.cell? ⟨b, off + k * 10 + 4, none⟩ = some (.string x.m.val) := fun p => p.h.cell hb ((World.cell?_of_block (hB.block b hb)).trans (HC.out 4 _ (by decide) rfl))
      have e5 : ∀ p : Kept (· < w.heap.size) w2.drew, p.v.cell? ⟨b, off + k * 10 + 5, none⟩ = some (.int .i64 x.m.exp) := fun p => p.h.cell hb ((World.cell?_of_block (hB.block b hb)).trans (HC.out 5 _ (by decide) rfl))
      have e6 : ∀ p : Kept (· < w.heap.size) w2.drew, p.v.cell? ⟨b, off + k * 10 + 6, none⟩ = some (.int .i64 x.m.at_.1) := fun p => p.h.cell hb ((World.cell?_of_block (hB.block b hb)).trans (HC.out 6 _ (by decide) rfl))
      have e7 : ∀ p : Kept (· < w.heap.size) w2.drew, p.v.cell? ⟨b, off + k * 10 + 7, none⟩ = some (.int .i64 x.m.at_.2.1) := fun p => p.h.cell hb ((World.cell?_of_block (hB.block b hb)).trans (HC.out 7 _ (by decide) rfl))
      have e8 : ∀ p : Kept (· < w.heap.size) w2.drew, p.v.cell? ⟨b, off + k * 10 + 8, none⟩ = some (.int .i64 x.m.at_.2.2) := fun p => p.h.cell hb ((World.cell?_of_block (hB.block b hb)).trans (HC.out 8 _ (by decide) rfl))
      have e9 : ∀ p : Kept (· < w.heap.size) w2.drew, p.v.cell? ⟨b, off + k * 10 + 9, none⟩ = some (.slice x.A x.n x.c) := fun p => p.h.cell hb ((World.cell?_of_block (hB.block b hb)).trans (HC.out 9 _ (by decide) rfl))
      have hml := mput_len x.m HI.out
      have hrl := mrest_len x.m HI.out
      replace hB := below_drewN hB 1
      replace hrx := hrx.drewN 1
      change Below w.heap.size w w2.drew at hB
      change Reads w2.drew w.heap.size 3 x.A x.n (x.m.ov.flatMap sc) at hrx
      refine wp_region_mixDk (M := []) (· < w.heap.size) [0, 2, 3, 4, 5, 7, 9, 10, 11, 12, 1, 6, 8, 13, 14, 15, 16, 17, 18, 19, 20, 21, 23, 24, 25, 26, 22, 27, 28, 29, 30] (by kernel_rfl) (by kernel_rfl) ?_
      iterate 10 (refine mix_calmDk rfl rfl ?_; go_big_quiet_step (fail); refine wpQuiet_nil ?_)
      refine mix_loudDk rfl (by kernel_rfl) rfl ?_
      intro K1 hK1
      have HK := Lib.hid hK1
      clear hK1 
      go_wp2_with fail
      refine (bytes_Clone A0 n0 c0 l w2.drew ((HR0.out.below hB).more hB.size) HA0.out (by omega)).mono ?_
      rintro x u1 ⟨v1, rfl, oX, bX⟩
      have hBs := hB.size
      replace hrx := hrx.below (bX.mono hBs)
      have HS9 := Lib.hid (Stand.of_below (S := (· < w.heap.size)) bX)
      have O1 := Lib.hid (oX.base_le (base' := w.heap.size) hB.size)
      replace hB := hB.trans (bX.mono hB.size)
      clear oX bX hBs
      go_wp2_with fail
      refine HK.out _ _ (HS9.out) ?_
      clear HK
      clear HS9
      refine mix_loudDk rfl (by kernel_rfl) rfl ?_
      intro K1 hK1
      have HK := Lib.hid hK1
      clear hK1 
      go_wp2_with fail
      refine (mut_Put u1 w.heap.size v1 l x.m x.A x.n x.c O1.out hB.size hrx HI.out (by omega)).mono ?_
      rintro x u2 ⟨v2, rfl, OX, GX, -⟩
      have HS9 := Lib.hid (stand_own (N := w.heap.size) O1.out (Nat.le_refl _) GX)
      have bX : Below w.heap.size u1 u2 := below_of_grown (Below.refl _ _) hB.size GX (fun q hq => (O1.out.lt q hq).1)
      replace hrx := hrx.below bX
      replace hB := hB.trans bX
      have O2 := Lib.hid OX
      clear OX GX O1 bX
      go_wp2_with fail
      refine HK.out _ _ (HS9.out) ?_
      clear HK
      clear HS9
      refine mix_loudDk rfl (by kernel_rfl) rfl ?_
      intro K1 hK1
      have HK := Lib.hid hK1
      clear hK1 
      go_wp2_with fail
      refine (bytes_Clone A0 n0 c0 l u2 ((HR0.out.below hB).more hB.size) HA0.out (by omega)).mono ?_
      rintro x u3 ⟨v3, rfl, oX, bX⟩
      have hBs := hB.size
      have HNE : Hid (v2.ownBlock = none ∨ v2.ownBlock ≠ v3.ownBlock) := Lib.hid (by
        cases hv : v2.ownBlock with
        | none => exact .inl rfl
        | some q => exact .inr (fun e => by have := (O2.out.lt q hv).2; have := (oX.lt q e.symm).1; omega))
      replace hrx := hrx.below (bX.mono hBs)
      have HS9 := Lib.hid (Stand.of_below (S := (· < w.heap.size)) bX)
      replace O2 := Lib.hid (O2.out.below bX)
      have O3 := Lib.hid (oX.base_le (base' := w.heap.size) hB.size)
      replace hB := hB.trans (bX.mono hB.size)
      clear oX bX hBs
      go_wp2_with fail
      refine HK.out _ _ (HS9.out) ?_
      clear HK
      clear HS9
      refine mix_loudDk rfl (by kernel_rfl) rfl ?_
      intro K1 hK1
      have HK := Lib.hid hK1
      clear hK1 
      go_wp2_with fail
      refine (ref07_Put x.m x.A x.n x.c u3 (hrx.more hB.size) HI.out).mono ?_
      rintro x u4 ⟨v4, rfl, oX, bX⟩
      have hBs := hB.size
      replace hrx := hrx.below (bX.mono hBs)
      have HS9 := Lib.hid (Stand.of_below (S := (· < w.heap.size)) bX)
      replace O2 := Lib.hid (O2.out.below bX)
      replace O3 := Lib.hid (O3.out.below bX)
      have O4 := Lib.hid (oX.base_le (base' := w.heap.size) hB.size)
      replace hB := hB.trans (bX.mono hB.size)
      clear oX bX hBs
      go_wp2_with fail
      refine HK.out _ _ (HS9.out) ?_
      clear HK
      clear HS9
      obtain ⟨A9, c9, rfl, _, R9⟩ := O4.out.reads
      have R9 := Lib.hid R9
      have hs9 := hB.size
      refine mix_loudDk rfl (by kernel_rfl) rfl ?_
      intro K1 hK1
      have HK := Lib.hid hK1
      clear hK1 
      go_wp2_with (at_builtin; go_must (refine append_bytes u4 rfl _ _ rfl w.heap.size v3 l rfl O3.out A9 _ c9 (mput x.m) rfl R9.out (by omega) hs9 ?_); intro v5 u5 OX GX _)
      have HS9 := Lib.hid (stand_own (N := w.heap.size) O3.out (Nat.le_refl _) GX)
      have bX : Below w.heap.size u4 u5 := below_of_grown (Below.refl _ _) hB.size GX (fun q hq => (O3.out.lt q hq).1)
      replace O2 := Lib.hid (O2.out.kept GX HNE.out)
      replace hrx := hrx.below bX
      replace hB := hB.trans bX
      have O5 := Lib.hid OX
      clear OX GX O3 O4 R9 bX
      refine HK.out _ _ (HS9.out) ?_
      clear HK
      clear HS9
      have CE := Lib.hid (own_Equal O2.out O5.out (by rw [List.length_append]; omega))
      rw [decide_eq_true rfl] at CE
      refine mix_loudDk rfl (by kernel_rfl) rfl ?_
      intro K1 hK1
      have HK := Lib.hid hK1
      clear hK1 
      go_wp2_with fail
      refine (CE.out).mono ?_
      rintro x u6 ⟨rfl, bX⟩
      have HS9 := Lib.hid (Stand.of_below (S := (· < w.heap.size)) bX)
      replace hrx := hrx.below (bX.mono hB.size)
      replace hB := hB.trans (bX.mono hB.size)
      clear bX CE O2 O5
      go_wp2_with fail
      refine HK.out _ _ (HS9.out) ?_
      clear HK
      clear HS9
      clear e0 e1 e2 e3 e4 e5 e6 e7 e8 e9
      have e0 : ∀ p : Kept (· < w.heap.size) u6, p.v.cell? ⟨b, off + k * 10, none⟩ = some (.int .i64 x.m.tab) := fun p => p.h.cell hb ((World.cell?_of_block (hB.block b hb)).trans (HC.out 0 _ (by decide) rfl))
      have e1 : ∀ p : Kept (· < w.heap.size) u6, p.v.cell? ⟨b, off + k * 10 + 1, none⟩ = some (.int .i64 x.m.kind) := fun p => p.h.cell hb ((World.cell?_of_block (hB.block b hb)).trans (HC.out 1 _ (by decide) rfl))
      have e2 : ∀ p : Kept (· < w.heap.size) u6, p.v.cell? ⟨b, off + k * 10 + 2, none⟩ = some (.string x.m.key) := fun p => p.h.cell hb ((World.cell?_of_block (hB.block b hb)).trans (HC.out 2 _ (by decide) rfl))
      have e3 : ∀ p : Kept (· < w.heap.size) u6, p.v.cell? ⟨b, off + k * 10 + 3, none⟩ = some (.string x.m.en) := fun p => p.h.cell hb ((World.cell?_of_block (hB.block b hb)).trans (HC.out 3 _ (by decide) rfl))
      have e4 : ∀ p : Kept (· < w.heap.size) u6, p.v.cell? ⟨b, off + k * 10 + 4, none⟩ = some (.string x.m.val) := fun p => p.h.cell hb ((World.cell?_of_block (hB.block b hb)).trans (HC.out 4 _ (by decide) rfl))
      have e5 : ∀ p : Kept (· < w.heap.size) u6, p.v.cell? ⟨b, off + k * 10 + 5, none⟩ = some (.int .i64 x.m.exp) := fun p => p.h.cell hb ((World.cell?_of_block (hB.block b hb)).trans (HC.out 5 _ (by decide) rfl))
      have e6 : ∀ p : Kept (· < w.heap.size) u6, p.v.cell? ⟨b, off + k * 10 + 6, none⟩ = some (.int .i64 x.m.at_.1) := fun p => p.h.cell hb ((World.cell?_of_block (hB.block b hb)).trans (HC.out 6 _ (by decide) rfl))
      have e7 : ∀ p : Kept (· < w.heap.size) u6, p.v.cell? ⟨b, off + k * 10 + 7, none⟩ = some (.int .i64 x.m.at_.2.1) := fun p => p.h.cell hb ((World.cell?_of_block (hB.block b hb)).trans (HC.out 7 _ (by decide) rfl))
      have e8 : ∀ p : Kept (· < w.heap.size) u6, p.v.cell? ⟨b, off + k * 10 + 8, none⟩ = some (.int .i64 x.m.at_.2.2) := fun p => p.h.cell hb ((World.cell?_of_block (hB.block b hb)).trans (HC.out 8 _ (by decide) rfl))
      have e9 : ∀ p : Kept (· < w.heap.size) u6, p.v.cell? ⟨b, off + k * 10 + 9, none⟩ = some (.slice x.A x.n x.c) := fun p => p.h.cell hb ((World.cell?_of_block (hB.block b hb)).trans (HC.out 9 _ (by decide) rfl))
      iterate 10 (refine mix_calmDk rfl rfl ?_; go_big_quiet_step (fail); refine wpQuiet_nil ?_)
      clear e0 e1 e2 e3 e4 e5 e6 e7 e8 e9
      refine mix_loudDk rfl (by kernel_rfl) rfl ?_
      intro K1 hK1
      have HK := Lib.hid hK1
      clear hK1 
      go_wp2_with fail
      refine (mut_Rest u6 w.heap.size (.slice none 0 0) [] x.m x.A x.n x.c (Own.nil_ _ _) hB.size hrx HI.out (by simp)).mono ?_
      rintro x u7 ⟨v7, rfl, OX, GX, -⟩
      rw [List.nil_append] at OX
      have HS9 := Lib.hid (stand_own (N := w.heap.size) (Own.nil_ u6 w.heap.size) (Nat.le_refl _) GX)
      have bX : Below w.heap.size u6 u7 := below_of_grown (Below.refl _ _) hB.size GX (fun q hq => by cases hq)
      replace hrx := hrx.below bX
      replace hB := hB.trans bX
      have O7 := Lib.hid OX
      clear OX GX bX
      go_wp2_with fail
      refine HK.out _ _ (HS9.out) ?_
      clear HK
      clear HS9
      refine mix_loudDk rfl (by kernel_rfl) rfl ?_
      intro K1 hK1
      have HK := Lib.hid hK1
      clear hK1 
      go_wp2_with fail
      refine (ref07_Rest x.m x.A x.n x.c u7 (hrx.more hB.size) HI.out).mono ?_
      rintro x u8 ⟨v8, rfl, oX, bX⟩
      have hBs := hB.size
      replace hrx := hrx.below (bX.mono hBs)
      have HS9 := Lib.hid (Stand.of_below (S := (· < w.heap.size)) bX)
      replace O7 := Lib.hid (O7.out.below bX)
      have O8 := Lib.hid (oX.base_le (base' := w.heap.size) hB.size)
      replace hB := hB.trans (bX.mono hB.size)
      clear oX bX hBs
      go_wp2_with fail
      refine HK.out _ _ (HS9.out) ?_
      clear HK
      clear HS9
      have CE := Lib.hid (own_Equal O7.out O8.out (by omega))
      rw [decide_eq_true rfl] at CE
      refine mix_loudDk rfl (by kernel_rfl) rfl ?_
      intro K1 hK1
      have HK := Lib.hid hK1
      clear hK1 
      go_wp2_with fail
      refine (CE.out).mono ?_
      rintro x u9 ⟨rfl, bX⟩
      have HS9 := Lib.hid (Stand.of_below (S := (· < w.heap.size)) bX)
      replace hB := hB.trans (bX.mono hB.size)
      clear bX CE O7 O8
      go_wp2_with fail
      refine HK.out _ _ (HS9.out) ?_
      clear HK
      clear HS9
      iterate 2 (refine mix_calmDk rfl rfl ?_; go_big_quiet_step (fail); refine wpQuiet_nil ?_)
      refine mix_endDk ?_
      have HN : Hid (∀ (j : Nat) (e : MutS), j < k + 1 → L[j]? = some e → MbOk e) := Lib.hid (fun j e hj he => by
        rcases Nat.lt_or_ge j k with h | h
        · exact HALL.out j e h he
        · have e1 : j = k := by omega
          subst e1
          rw [HGX.out] at he
          injection he with he
          subst he
          exact ⟨HG.out, HRQ.out⟩)
      clear hrx
      go_wp2_with fail
      go_roundw
      case rel => exact ⟨k + 1, by go_num, by omega, HN.out, hB⟩
      case measure => simp [RowKit.intOf]; omega
    · have hkn : k = n := by omega
      subst hkn
      have hall : ∀ e ∈ L, MbOk e := fun e he => by
        obtain ⟨j, hj, rfl⟩ := List.mem_iff_getElem.1 he
        exact HALL.out j _ (by have := HL.out; omega) (List.getElem?_eq_getElem hj)
      have RM := Lib.hid (rdM_of HR.out HQ.out (fun e he => by have := great7_no (hall e he).1; omega))
      have HIM : Hid (∀ m ∈ L.map (·.m), MutI m) := Lib.hid (fun m hm => by
        obtain ⟨e, he, rfl⟩ := List.mem_map.1 hm
        exact muti_of (HQ.out e he).2.2.2.2 (hall e he).1 (stamps_n (HQ.out e he).2.2.2.1))
      have hml := mputs_len (L.map (·.m)) HIM.out
      rw [List.length_map, HL.out] at hml
      have hal : (mall (L.map (·.m))).length ≤ 3000000000 := by
        have := wputI_len ((L.map (·.m)).length : Int) (by rw [List.length_map, HL.out]; omega)
        unfold mall
        rw [List.length_append]
        omega
      have HAL := Lib.hid hal
      clear hall hml hal
      go_wp2_with fail
      refine (bytes_Clone A0 n0 c0 l wr ((HR0.out.below hB).more hB.size) HA0.out (by omega)).mono ?_
      rintro y u1 ⟨v1, rfl, oX, bX⟩
      have O1 := oX.base_le (base' := w.heap.size) hB.size
      replace hB := hB.trans (bX.mono hB.size)
      clear oX bX
      go_wp2_with fail
      refine (mut_All w u1 w.heap.size v1 l A k c (L.map (·.m)) O1 hB.size (Nat.le_refl _) hB RM.out HIM.out (by omega) (by omega)).mono ?_
      rintro y u2 ⟨v2, rfl, O2, GX, -⟩
      replace hB := Below.grown hB GX hB.size (fun q hq => (O1.lt q hq).1)
      clear O1 GX
      go_wp2_with fail
      refine (bytes_Clone A0 n0 c0 l u2 ((HR0.out.below hB).more hB.size) HA0.out (by omega)).mono ?_
      rintro y u3 ⟨v3, rfl, oX, bX⟩
      have HNE : Hid (v2.ownBlock = none ∨ v2.ownBlock ≠ v3.ownBlock) := Lib.hid (by
        cases hv : v2.ownBlock with
        | none => exact .inl rfl
        | some q => exact .inr (fun e => by have := (O2.lt q hv).2; have := (oX.lt q e.symm).1; omega))
      have O3 := oX.base_le (base' := w.heap.size) hB.size
      replace O2 := O2.below bX
      replace hB := hB.trans (bX.mono hB.size)
      clear oX bX
      go_wp2_with fail
      refine (ref07_All A k c (L.map (·.m)) u3 (RM.out.below hB) HIM.out (by omega)).mono ?_
      rintro y u4 ⟨v4, rfl, oX, bX⟩
      have O4 := oX.base_le (base' := w.heap.size) hB.size
      replace O2 := O2.below bX
      replace O3 := O3.below bX
      replace hB := hB.trans (bX.mono hB.size)
      clear oX bX
      obtain ⟨A9, c9, rfl, _, R9⟩ := O4.reads
      have hs := hB.size
      go_wp2_with (at_builtin; go_must (refine append_bytes u4 rfl _ _ rfl w.heap.size _ l rfl O3 A9 _ c9 (mall (L.map (·.m))) rfl R9 (by have := HAL.out; omega) hs ?_); intro v5 u5 O5 GX _)
      replace hB := Below.grown hB GX hB.size (fun q hq => (O3.lt q hq).1)
      replace O2 := O2.kept GX HNE.out
      clear O3 O4 R9 GX
      have CE := Lib.hid (own_Equal O2 O5 (by rw [List.length_append]; have := HAL.out; omega))
      rw [decide_eq_true rfl] at CE
      refine CE.out.mono ?_
      rintro y u6 ⟨rfl, bX⟩
      replace hB := hB.trans (bX.mono hB.size)
      clear bX O2 O5 CE
      go_wp2_with fail
      refine (alive07 u6 (HT.out.in_ (Nat.le_refl _) hB)).mono ?_
      rintro y u7 ⟨rfl, bX⟩
      replace hB := hB.trans (bX.mono hB.size)
      go_wp2_with fail
      go_ret
      exact ⟨rfl, hB⟩
end Go.Proofs.YthbhbechemnidaaDoor
