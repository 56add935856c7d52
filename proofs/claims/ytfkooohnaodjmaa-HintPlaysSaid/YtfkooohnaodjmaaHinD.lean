/- Contract of hint.Store's Add. -/
import Derived.Test.YtfkooohnaodjmaaHinC
import Derived.Test.YtfkooohnaodjmaaMixN
namespace Go.Proofs.Ytfkooohnaodjmaa
open Go.RowKit Go.Sort

def addB (H : List HintP) (to : Int) (m : Mut) : Bool := decide (H.length < 100) && !(H.any fun x => decide (x.to = to) && (cmpM x.m m == 0))
def untilH (now : Int) : Int := min (max now 0) 1099511627776 + 40
def addH (H : List HintP) (to now : Int) (m : Mut) : List HintP := if addB H to m then H ++ [⟨to, untilH now, m⟩] else H
def AddE (gs base : Nat) (v : Value) (L : List HintS) (to now : Int) (m : Mut) (w : World) (e : Ending) (w' : World) : Prop :=
  ∃ v' L', e = .returned (.bool (addB (L.map hp) to m)) ∧ StH w' gs base v' L' ∧ L'.map hp = addH (L.map hp) to now m ∧ Stand (StS gs v) w w' ∧ LiesIn w v v'
theorem max_ints (ats : Array TypeId) (ty : TypeId) (k : IntKind) (a b : Int) : Builtin.max_ ats ty #[.int k a, .int k b] = pure (.int k (max a b)) := by
  have h : max a b = if b > a then b else a := by
    rw [Int.max_def]
    split <;> split <;> omega
  rw [h]
  simp [Builtin.max_, Builtin.max2]
theorem min_ints (ats : Array TypeId) (ty : TypeId) (k : IntKind) (a b : Int) : Builtin.min_ ats ty #[.int k a, .int k b] = pure (.int k (min a b)) := by
  have h : min a b = if b < a then b else a := by
    rw [Int.min_def]
    split <;> split <;> omega
  rw [h]
  simp [Builtin.min_, Builtin.min2]
attribute [local go_sem] max_ints min_ints
attribute [local irreducible] NC.wpAnyMTk

set_option maxRecDepth 100000 in
set_option maxHeartbeats 4000000 in
theorem hint_Add (gs base : Nat) (v : Value) (L : List HintS) (to now : Int) (m : Mut) (A : Option Addr) (n c : Nat) (w : World) (h : StH w gs base v L) (hm : Reads w w.heap.size 3 A n (m.ov.flatMap sc)) (hA : A = none → c = 0) (hn : n ≤ 1000000000) (hL : L.length ≤ 1000) :
    Calls Try.prog 6 #[.pointer (some ⟨gs, 0, none⟩), .int .i64 to, .agg (mutC m (.slice A n c)), .int .i64 now] w (AddE gs base v L to now m w) := by
  obtain ⟨V, cV, rfl, hcV, -, -⟩ := own_form h.own
  obtain ⟨W, hW⟩ : ∃ W, (w.alloc (.cells #[.int .i64 to] 3)).alloc (.cells (mutC m (.slice A n c)) 33) = W := ⟨_, rfl⟩
  have bW : Below w.heap.size w W := by rw [← hW]; exact ((Below.refl _ _).alloc (Nat.le_refl _) _).alloc (by simp) _
  have BT : Hid (Blk W w.heap.size 3 #[.int .i64 to]) := Lib.hid (by rw [← hW]; exact (Blk.new _ _ _).alloc _)
  have BM : Hid (Blk W (w.heap.size + 1) 33 (mutC m (.slice A n c))) := Lib.hid (by
    rw [← hW]
    have h1 := Blk.new (w.alloc (.cells #[.int .i64 to] 3)) 33 (mutC m (.slice A n c))
    rw [World.size_alloc] at h1
    exact h1)
  have hsz : W.heap.size = w.heap.size + 2 := by rw [← hW]; simp
  have hW1 := h.below bW
  have hgs := h.blk.lt
  have q0 : W.cell? ⟨gs, 0, none⟩ = some (.slice V L.length cV) := hW1.blk.cell 0
  have hmW := (hm.below bW).more bW.size
  have HM := Lib.hid hmW
  have eg : ∀ args w, (callFunc 20 args).run Try.prog w = .ok (.enter 20 args) w := enters_of Try.func20 (by kernel_rfl) rfl
  have HC := Lib.hid (hints_ContainsFunc V L.length cV L W (fun _ => True) 20 #[.pointer (some ⟨w.heap.size, 0, none⟩), .pointer (some ⟨w.heap.size + 1, 0, none⟩)] (fun x => decide (x.to = to) && (cmpM x.m m == 0)) eg (Reads.of_own hW1.own) hW1.hang.free hW1.ok (by omega)
    (fun U x hU hr hok => hint_same w.heap.size (w.heap.size + 1) to m A n c x U (hU.blk trivial BT.out) (hU.blk trivial BM.out) hr (by have := hU.below (B := W.heap.size) (fun _ _ => trivial) (Nat.le_refl _); exact (HM.out.below this).more this.size) hok.1))
  obtain ⟨D, hD⟩ : ∃ D, (L.any fun x => decide ((hp x).to = to) && (cmpM (hp x).m m == 0)) = D := ⟨_, rfl⟩
  have HD : Hid (((L.map hp).any fun x => decide (x.to = to) && (cmpM x.m m == 0)) = D) := Lib.hid (by rw [List.any_map]; exact hD)
  have hC2 := HC.out
  simp only [hD] at hC2
  replace HC := Lib.hid hC2
  have HW1 := Lib.hid hW1
  have hnew : ∀ k, w.heap.size ≤ k → some k ≠ (Value.slice V L.length cV).ownBlock := fun k hk e => by have := (World.ownsRow.lt h.own _ e.symm).2; omega
  have HNEW := Lib.hid hnew
  have hne : some gs ≠ (Value.slice V L.length cV).ownBlock := fun e => h.ne e.symm
  have HNE := Lib.hid hne
  have HB := Lib.hid bW
  obtain ⟨N, hN⟩ : ∃ N, L.length = N := ⟨_, rfl⟩
  have HN := Lib.hid hN
  have hzw : ∀ k, some k ≠ (Value.slice V L.length cV).ownBlock → True := fun _ _ => trivial
  clear hm hmW hW1 hD hC2 hnew hne hzw bW
  rw [hN] at q0 HC HW1 HNEW HNE hcV hL
  have h0 : StH w gs base (.slice V N cV) L := by rw [hN] at h; exact h
  have H0 := Lib.hid h0
  clear hN h h0
  by_cases h100 : 100 ≤ N
  · have hge : decide ((N : Int) ≥ 100) = true := by simp; omega
    have F : Hid (AddE gs base (.slice V N cV) L to now m w (.returned (.bool false)) W) := Lib.hid (by
      have e0 : addB (L.map hp) to m = false := by unfold addB; rw [decide_eq_false (by rw [List.length_map, HN.out]; omega)]; rfl
      refine ⟨_, L, by rw [e0], HW1.out, by unfold addH; rw [e0]; rfl, Stand.of_below HB.out, .inl rfl⟩)
    rw [HN.out]
    clear HC HW1 H0
    go_enter Try.func6, Try.ntmps6
    go_wp2_with fail
    go_ret
    exact hW ▸ F.out
  · have hge : decide ((N : Int) ≥ 100) = false := by simp; omega
    rw [HN.out]
    cases D with
    | true =>
      have F : Hid (∀ w2, Below W.heap.size W w2 → AddE gs base (.slice V N cV) L to now m w (.returned (.bool false)) w2) := Lib.hid (fun w2 b2 => by
        have e0 : addB (L.map hp) to m = false := by unfold addB; rw [HD.out, Bool.not_true, Bool.and_false]
        refine ⟨_, L, by rw [e0], HW1.out.below b2, by unfold addH; rw [e0]; rfl, Stand.of_below (HB.out.trans (b2.mono HB.out.size)), .inl rfl⟩)
      clear HW1 H0
      go_enter Try.func6, Try.ntmps6
      go_wp2_with fail
      clear hW
      refine HC.out.mono ?_
      rintro e w2 ⟨rfl, b2⟩
      go_wp2_with fail
      go_ret
      exact F.out w2 b2
    | false =>
      have e0 : addB (L.map hp) to m = true := by unfold addB; rw [HD.out, decide_eq_true (by rw [List.length_map, HN.out]; omega)]; rfl
      have HE0 := Lib.hid e0
      clear e0
      unfold mutC at BM
      go_enter Try.func6, Try.ntmps6
      go_wp2_with fail
      clear hW
      refine HC.out.mono ?_
      clear HC
      rintro e w2 ⟨rfl, b2⟩
      have hS2 := HW1.out.below b2
      have hgs2 : gs < W.heap.size := by omega
      have HS2 := Lib.hid hS2
      have BT2 := BT.out.below b2 BT.out.lt
      have BM2 := BM.out.below b2 BM.out.lt
      have HM2 := Lib.hid ((HM.out.below b2).more b2.size)
      have HB2 := Lib.hid (HB.out.trans (b2.mono HB.out.size))
      have hsw : w.heap.size ≤ w2.heap.size := HB2.out.size
      have hsp := b2.size
      have hbg : base ≤ gs := HS2.out.base_
      clear hS2 b2 q0
      obtain ⟨q, hq⟩ : ∃ q, min (max now 0) 1099511627776 = q := ⟨_, rfl⟩
      have hq1 : 0 ≤ q := by rw [← hq]; omega
      have hq2 : q ≤ 1099511627776 := by rw [← hq]; omega
      have HQ : Hid (untilH now = q + 40) := Lib.hid (by unfold untilH; rw [hq])
      go_upto_region 4 with fail
      have g0 : ∀ p : Kept (fun k => some k ≠ (Value.slice V N cV).ownBlock) w2.drew, p.v.cell? ⟨gs, 0, none⟩ = some (.slice V N cV) := fun p => p.h.cell HNE.out (HS2.out.blk.drew.cell 0)
      have t0 : ∀ p : Kept (fun k => some k ≠ (Value.slice V N cV).ownBlock) w2.drew, p.v.cell? ⟨w.heap.size, 0, none⟩ = some (.int .i64 to) := fun p => p.h.cell (HNEW.out _ (Nat.le_refl _)) (BT2.drew.cell 0)

      have m0 : ∀ p : Kept (fun k => some k ≠ (Value.slice V N cV).ownBlock) w2.drew, p.v.cell? ⟨w.heap.size + 1, 0, none⟩ = some (.int .i64 m.tab) := fun p => p.h.cell (HNEW.out _ (Nat.le_succ _)) (BM2.drew.cell 0)
      have m1 : ∀ p : Kept (fun k => some k ≠ (Value.slice V N cV).ownBlock) w2.drew, p.v.cell? ⟨w.heap.size + 1, 1, none⟩ = some (.int .i64 m.kind) := fun p => p.h.cell (HNEW.out _ (Nat.le_succ _)) (BM2.drew.cell 1)
      have m2 : ∀ p : Kept (fun k => some k ≠ (Value.slice V N cV).ownBlock) w2.drew, p.v.cell? ⟨w.heap.size + 1, 2, none⟩ = some (.string m.key) := fun p => p.h.cell (HNEW.out _ (Nat.le_succ _)) (BM2.drew.cell 2)
      have m3 : ∀ p : Kept (fun k => some k ≠ (Value.slice V N cV).ownBlock) w2.drew, p.v.cell? ⟨w.heap.size + 1, 3, none⟩ = some (.string m.en) := fun p => p.h.cell (HNEW.out _ (Nat.le_succ _)) (BM2.drew.cell 3)
      have m4 : ∀ p : Kept (fun k => some k ≠ (Value.slice V N cV).ownBlock) w2.drew, p.v.cell? ⟨w.heap.size + 1, 4, none⟩ = some (.string m.val) := fun p => p.h.cell (HNEW.out _ (Nat.le_succ _)) (BM2.drew.cell 4)
      have m5 : ∀ p : Kept (fun k => some k ≠ (Value.slice V N cV).ownBlock) w2.drew, p.v.cell? ⟨w.heap.size + 1, 5, none⟩ = some (.int .i64 m.exp) := fun p => p.h.cell (HNEW.out _ (Nat.le_succ _)) (BM2.drew.cell 5)
      have m6 : ∀ p : Kept (fun k => some k ≠ (Value.slice V N cV).ownBlock) w2.drew, p.v.cell? ⟨w.heap.size + 1, 6, none⟩ = some (.int .i64 m.at_.1) := fun p => p.h.cell (HNEW.out _ (Nat.le_succ _)) (BM2.drew.cell 6)
      have m7 : ∀ p : Kept (fun k => some k ≠ (Value.slice V N cV).ownBlock) w2.drew, p.v.cell? ⟨w.heap.size + 1, 7, none⟩ = some (.int .i64 m.at_.2.1) := fun p => p.h.cell (HNEW.out _ (Nat.le_succ _)) (BM2.drew.cell 7)
      have m8 : ∀ p : Kept (fun k => some k ≠ (Value.slice V N cV).ownBlock) w2.drew, p.v.cell? ⟨w.heap.size + 1, 8, none⟩ = some (.int .i64 m.at_.2.2) := fun p => p.h.cell (HNEW.out _ (Nat.le_succ _)) (BM2.drew.cell 8)
      have m9 : ∀ p : Kept (fun k => some k ≠ (Value.slice V N cV).ownBlock) w2.drew, p.v.cell? ⟨w.heap.size + 1, 9, none⟩ = some (.slice A n c) := fun p => p.h.cell (HNEW.out _ (Nat.le_succ _)) (BM2.drew.cell 9)
      have HS2d : Hid (StH w2.drew gs base (.slice V N cV) L) := Lib.hid (HS2.out.below ((Below.refl _ _).drew))
      have HM2d : Hid (Reads w2.drew w2.drew.heap.size 3 A n (m.ov.flatMap sc)) := HM2
      have HB2d : Hid (Below w.heap.size w w2.drew) := Lib.hid (below_drewN HB2.out 1)
      clear BT2 BM2 HS2 HM2 HB2
      refine NC.wp_region_mixTk (M := []) (fun k => some k ≠ (Value.slice V N cV).ownBlock) 15 [0, 1, 2, 3, 4, 5, 6, 7, 8, 9, 10, 11, 12, 13, 14] (by kernel_rfl) (by kernel_rfl) ?_
      iterate 11 (refine NC.mix_calmDk rfl rfl ?_; go_big_quiet_step (fail); refine wpQuiet_nil ?_)
      clear g0 t0 m0 m1 m2 m3 m4 m5 m6 m7 m8 m9
      refine NC.mix_loudDk rfl (by kernel_rfl) rfl ?_
      intro K1 hK1
      have HK := Lib.hid hK1
      clear hK1
      go_wp2_with fail
      refine (mut_Copy m A n c w2.drew HM2d.out hA hn).mono ?_
      rintro e w3 ⟨v3, rfl, o3, b3⟩
      obtain ⟨A3, c3, rfl, -, hz3, -⟩ := own_form o3
      have hr3 := Reads.of_own o3
      have HS3 := Lib.hid (HS2d.out.below b3)
      have HB3 := Lib.hid (HB2d.out.trans (b3.mono HB2d.out.size))
      have hnl : m.ov.length ≤ 1000000000 := by have := stamps_n HM2d.out; omega
      have HFA : Hid (∀ ad, A3 = some ad → w2.heap.size ≤ ad.block) := Lib.hid (fun ad ha => by
        have := World.ownsRow.lt o3 ad.block (by rw [ha]; rfl)
        exact this.1)
      have HLA : Hid (∀ ad, A3 = some ad → ad.block < w3.heap.size) := Lib.hid (fun ad ha => by
        have := World.ownsRow.lt o3 ad.block (by rw [ha]; rfl)
        exact this.2)
      have HR3 := Lib.hid hr3
      have hs3 : w2.heap.size ≤ w3.heap.size := b3.size
      clear HS2d HM2d HB2d o3 hr3
      unfold mutC
      go_wp2_with fail
      refine HK.out _ _ (Stand.of_below b3) ?_
      clear HK b3
      iterate 1 (refine NC.mix_calmDk rfl rfl ?_; go_big_quiet_step (fail); refine wpQuiet_nil ?_)
      refine NC.mix_loudDk rfl (by kernel_rfl) rfl ?_
      intro K1 hK1
      have HK := Lib.hid hK1
      clear hK1
      go_wp2_with fail
      refine HK.out _ _ ((Stand.refl _ _).alloc _) ?_
      clear HK
      refine NC.mix_loudDk rfl (by kernel_rfl) rfl ?_
      intro K1 hK1
      have HK := Lib.hid hK1
      clear hK1
      obtain ⟨x0, hx0⟩ : ∃ x0 : HintS, x0 = ⟨to, q + 40, ⟨m, A3, m.ov.length, c3⟩⟩ := ⟨_, rfl⟩
      have hL0 : #[Value.int .i64 to, .int .i64 (q + 40), .int .i64 m.tab, .int .i64 m.kind, .string m.key, .string m.en, .string m.val, .int .i64 m.exp, .int .i64 m.at_.1, .int .i64 m.at_.2.1, .int .i64 m.at_.2.2, .slice A3 m.ov.length c3].toList = hintL x0 := by rw [hx0]; rfl
      have HX0 := Lib.hid hx0
      clear hx0
      have hown3 := HS3.out.own
      have hbs : base ≤ w3.heap.size := by omega
      have hll : L.length ≤ 1000000 := by rw [HN.out]; omega
      have HFIN : Hid (∀ (A4 : Option Addr) (c4 : Nat) (w4 : World), OwnH w4 base (.slice A4 (L ++ [x0]).length c4) (L ++ [x0]) → (w3.alloc (.cells #[Value.int .i64 to, .int .i64 (q + 40), .int .i64 m.tab, .int .i64 m.kind, .string m.key, .string m.en, .string m.val, .int .i64 m.exp, .int .i64 m.at_.1, .int .i64 m.at_.2.1, .int .i64 m.at_.2.2, .slice A3 m.ov.length c3] 45)).grownBy w4 (Value.slice V N cV).ownBlock → LiesIn w3 (.slice V N cV) (.slice A4 (L ++ [x0]).length c4) →
          Blk w4 gs 26 #[.slice V N cV] ∧ AddE gs base (.slice V N cV) L to now m w (.returned (.bool true)) (w4.setCell ⟨gs, 0, none⟩ (.slice A4 (L ++ [x0]).length c4))) := Lib.hid (fun A4 c4 w4 o4 g4 l4 => by
        have hst : Stand (fun k => some k ≠ (Value.slice V N cV).ownBlock) w3 w4 := ((Stand.refl _ _).alloc _).trans (Stand.of_grown g4 (fun k hk h2 => h2 hk.symm))
        have hh1 : HangH w3 (Value.slice V N cV).ownBlock (L ++ [x0]) := by
          refine HS3.out.hang.snoc ?_ ?_
          · rw [HX0.out]; exact HR3.out
          · rw [HX0.out]
            intro ad ha e2
            have h8 := HFA.out ad ha
            exact HNEW.out ad.block (by omega) e2.symm
        have hlw : ∀ x ∈ L ++ [x0], ∀ ad, x.e.A = some ad → ad.block < w3.heap.size := fun x hx ad ha => by
          rcases List.mem_append.1 hx with hx | hx
          · exact HS3.out.low x hx ad ha
          · rw [List.mem_singleton.1 hx, HX0.out] at ha
            exact HLA.out ad ha
        have hh2 := (hh1.below ((Below.refl _ _).alloc (Nat.le_refl _) (.cells #[Value.int .i64 to, .int .i64 (q + 40), .int .i64 m.tab, .int .i64 m.kind, .string m.key, .string m.en, .string m.val, .int .i64 m.exp, .int .i64 m.at_.1, .int .i64 m.at_.2.1, .int .i64 m.at_.2.2, .slice A3 m.ov.length c3] 45))).grown g4
        have hh3 : HangH w4 (Value.slice A4 (L ++ [x0]).length c4).ownBlock (L ++ [x0]) := fun x hx => by
          refine ⟨(hh2 x hx).1, fun ad ha => ?_⟩
          rcases l4 with e2 | ⟨g2, e2, hg2⟩
          · rw [e2]; exact (hh1 x hx).2 ad ha
          · rw [e2]
            intro e3
            injection e3 with e3
            have hb2 := hlw x hx ad ha
            omega
        have P := StH.stored HS3.out o4 hh3 (fun x hx => ?_) hst l4 (fun x hx ad ha => ?_) (fun x hx ad ha => Nat.lt_of_lt_of_le (hlw x hx ad ha) hst.size)
        · refine ⟨hst.blk HNE.out HS3.out.blk, _, L ++ [x0], by rw [HE0.out], P.1, ?_, ?_, ?_⟩
          · unfold addH
            rw [if_pos HE0.out, List.map_append, HQ.out, HX0.out]
            rfl
          · exact (Stand.of_below HB3.out).trans P.2
          · rcases l4 with e2 | ⟨g2, e2, hg2⟩
            · exact .inl e2
            · exact .inr ⟨g2, e2, by omega⟩
        · rcases List.mem_append.1 hx with hx | hx
          · exact HS3.out.ok x hx
          · rw [List.mem_singleton.1 hx, HX0.out]
            exact ⟨hnl, hz3⟩
        · rcases List.mem_append.1 hx with hx | hx
          · exact (HS3.out.hang2 x hx).2 ad ha
          · rw [List.mem_singleton.1 hx, HX0.out] at ha
            intro e2
            injection e2 with e2
            have h8 := HFA.out ad ha
            omega)
      have HO3 := Lib.hid hown3
      have HL0 := Lib.hid hL0
      clear hown3 hL0
      go_wp2_with (at_builtin; go_must (refine append_hint w3 x0 _ HL0.out _ rfl _ _ rfl base _ L rfl HO3.out rfl hll hbs ?_); intro v7 w7 O7 G7 L7; obtain ⟨A7, c7, hv7, _, _, _⟩ := own_form O7; subst hv7; have hF := HFIN.out A7 c7 w7 O7 G7 L7; clear L7 O7; generalize (L ++ [x0]).length = N7 at hF ⊢; have HF := Lib.hid hF; clear hF; have HST := Lib.hid (Stand.of_grown (S := fun k => some k ≠ (Value.slice V N cV).ownBlock) G7 (fun k hk h => h hk.symm)))
      refine HK.out _ _ HST.out ?_
      clear HK
      refine NC.mix_endDk ?_
      have f3 := HF.out.1.frozen 0
      have q3 := HF.out.1.cell 0
      go_wp2_with fail
      go_ret
      exact HF.out.2
end Go.Proofs.Ytfkooohnaodjmaa
