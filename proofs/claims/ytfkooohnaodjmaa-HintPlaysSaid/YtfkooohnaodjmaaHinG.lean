/- Contract of the law's left. -/
import Derived.Test.YtfkooohnaodjmaaHinD
namespace Go.Proofs.Ytfkooohnaodjmaa
open Go.RowKit Go.Sort

/-- A call as it lies. -/
structure OpS where
  kind : Int
  to : Int
  now : Int
  e : MutS
def opC (o : OpS) : Array Value := #[.int .i64 o.kind, .int .i64 o.to, .int .i64 o.now, .int .i64 o.e.m.tab, .int .i64 o.e.m.kind, .string o.e.m.key, .string o.e.m.en, .string o.e.m.val, .int .i64 o.e.m.exp, .int .i64 o.e.m.at_.1, .int .i64 o.e.m.at_.2.1, .int .i64 o.e.m.at_.2.2, .slice o.e.A o.e.n o.e.c]
/-- The law's own row of hints: it reads; what hangs on it lies below base. -/
structure LawL (w : World) (base : Nat) (A : Option Addr) (n : Nat) (L : List HintS) : Prop where
  rd : Reads w w.heap.size 12 A n (L.flatMap hintL)
  el : ∀ x ∈ L, Reads w base 3 x.e.A x.e.n (x.e.m.ov.flatMap sc)
  ok : ∀ x ∈ L, okH x
  lt : ∀ ad, A = some ad → ad.block < w.heap.size
theorem LawL.below {w w' : World} {base n : Nat} {A : Option Addr} {L : List HintS} (h : LawL w base A n L) (b : Below w.heap.size w w') (hb : base ≤ w.heap.size) : LawL w' base A n L :=
  ⟨(h.rd.below b).more b.size, fun x hx => (h.el x hx).below (b.mono hb), h.ok, fun ad ha => Nat.lt_of_lt_of_le (h.lt ad ha) b.size⟩
theorem LawL.n_eq {w : World} {base n : Nat} {A : Option Addr} {L : List HintS} (h : LawL w base A n L) : L.length = n := hints_n h.rd
/-- Is a hint gone behind a call? -/
def goneB (o : OpS) (x : HintP) : Bool := (decide (o.kind % 5 = 2) && decide (x.to = o.to) && decide (x.m.at_ = o.e.m.at_)) || (decide (o.kind % 5 = 3) && decide (x.until_ ≤ o.now))
def LeftE (w : World) (base n : Nat) (o : OpS) (H : List HintP) (e : Ending) (w' : World) : Prop :=
  ∃ A' n' c' L', e = .returned (.tuple #[.slice A' n' c', .int .i64 ((n : Int) - n')]) ∧ LawL w' base A' n' L' ∧ L'.map hp = H.filter (fun x => !goneB o x) ∧ (∀ ad, A' = some ad → w.heap.size ≤ ad.block) ∧ (A' = none → c' = 0) ∧ (n' ≤ n ∧ n' ≤ c') ∧ Below w.heap.size w w'

set_option maxRecDepth 100000 in
set_option maxHeartbeats 4000000 in
theorem law28_left (A : Option Addr) (n c : Nat) (L : List HintS) (o : OpS) (base : Nat) (w : World) (hL : LawL w base A n L) (hb : base ≤ w.heap.size) (hn : n ≤ 1000) (hk : 0 ≤ o.kind ∧ o.kind ≤ 9223372036854775807) (hk2 : o.kind % 5 = 2 ∨ o.kind % 5 = 3) :
    Calls Try.prog 24 #[.slice A n c, .agg (opC o)] w (LeftE w base n o (L.map hp)) := by
  have HN := Lib.hid hL.n_eq
  obtain ⟨W, hW⟩ : ∃ W, w.alloc (.cells (opC o) 35) = W := ⟨_, rfl⟩
  have bW : Below w.heap.size w W := by rw [← hW]; exact (Below.refl _ _).alloc (Nat.le_refl _) _
  have BO : Blk W w.heap.size 35 (opC o) := by rw [← hW]; exact Blk.new _ _ _
  have hLW := hL.below bW hb
  have HL := Lib.hid hLW
  have OW : OwnH W (w.heap.size + 1) (.slice none 0 0) [] := World.ownsRow_nil _ _ _ _
  have hsW : w.heap.size + 1 ≤ W.heap.size := BO.lt
  have HSW : Hid (W.heap.size = w.heap.size + 1) := Lib.hid (by rw [← hW]; simp)
  unfold opC at hW
  clear hL hLW
  unfold opC
  go_enter Try.func24, Try.ntmps24
  go_wp2_with fail
  clear hW
  go_loopw [6, 7, 8] (fun v6 v7 _ wr => ∃ (k : Nat) (D : List HintS), v7 = .int .i64 k ∧ k ≤ n ∧ OwnH wr (w.heap.size + 1) v6 D ∧ D = (L.take k).filter (fun x => !goneB o (hp x)) ∧ Blk wr w.heap.size 35 (opC o) ∧ Below W.heap.size W wr) (fun _ v7 _ _ => n - (intOf v7).toNat)
  case atStart => exact ⟨0, [], rfl, Nat.zero_le _, OW, rfl, BO, Below.refl _ _⟩
  case round =>
    clear OW BO
    obtain ⟨k, D, rfl, hkn, hO, hD, BO, hB⟩ := hrel
    have HD := Lib.hid hD
    have HO := Lib.hid hO
    have hDl : D.length ≤ k := by rw [hD]; exact Nat.le_trans (List.length_filter_le _ _) (by rw [List.length_take]; omega)
    clear hD hO
    by_cases hlt : k < n
    · have hkl : k < L.length := by have := HN.out; omega
      obtain ⟨b, off, hA, hbb, hc⟩ := hint_at ((HL.out.rd.below hB).more hB.size) hkl
      subst hA
      have hnx : (L.take (k + 1)).filter (fun x => !goneB o (hp x)) = D ++ (if goneB o (hp L[k]) then [] else [L[k]]) := by
        rw [List.take_succ_eq_append_getElem hkl, List.filter_append, HD.out]
        by_cases hg : goneB o (hp L[k]) = true <;> simp [hg]
      obtain ⟨x, hx⟩ : ∃ x, L[k]'hkl = x := ⟨_, rfl⟩
      rw [hx] at hc hnx

      have q0 : wr.cell? ⟨b, off + k * 12, none⟩ = some (.int .i64 x.to) := hc 0 _ (by decide) rfl
      have q1 : wr.cell? ⟨b, off + k * 12 + 1, none⟩ = some (.int .i64 x.until_) := hc 1 _ (by decide) rfl
      have q2 : wr.cell? ⟨b, off + k * 12 + 2, none⟩ = some (.int .i64 x.e.m.tab) := hc 2 _ (by decide) rfl
      have q3 : wr.cell? ⟨b, off + k * 12 + 3, none⟩ = some (.int .i64 x.e.m.kind) := hc 3 _ (by decide) rfl
      have q4 : wr.cell? ⟨b, off + k * 12 + 4, none⟩ = some (.string x.e.m.key) := hc 4 _ (by decide) rfl
      have q5 : wr.cell? ⟨b, off + k * 12 + 5, none⟩ = some (.string x.e.m.en) := hc 5 _ (by decide) rfl
      have q6 : wr.cell? ⟨b, off + k * 12 + 6, none⟩ = some (.string x.e.m.val) := hc 6 _ (by decide) rfl
      have q7 : wr.cell? ⟨b, off + k * 12 + 7, none⟩ = some (.int .i64 x.e.m.exp) := hc 7 _ (by decide) rfl
      have q8 : wr.cell? ⟨b, off + k * 12 + 8, none⟩ = some (.int .i64 x.e.m.at_.1) := hc 8 _ (by decide) rfl
      have q9 : wr.cell? ⟨b, off + k * 12 + 9, none⟩ = some (.int .i64 x.e.m.at_.2.1) := hc 9 _ (by decide) rfl
      have q10 : wr.cell? ⟨b, off + k * 12 + 10, none⟩ = some (.int .i64 x.e.m.at_.2.2) := hc 10 _ (by decide) rfl
      have q11 : wr.cell? ⟨b, off + k * 12 + 11, none⟩ = some (.slice x.e.A x.e.n x.e.c) := hc 11 _ (by decide) rfl
      have o0 : wr.cell? ⟨w.heap.size, 0, none⟩ = some (.int .i64 o.kind) := BO.cell 0
      have o1 : wr.cell? ⟨w.heap.size, 1, none⟩ = some (.int .i64 o.to) := BO.cell 1
      have o2 : wr.cell? ⟨w.heap.size, 2, none⟩ = some (.int .i64 o.now) := BO.cell 2
      have o3 : wr.cell? ⟨w.heap.size, 3, none⟩ = some (.int .i64 o.e.m.tab) := BO.cell 3
      have o4 : wr.cell? ⟨w.heap.size, 4, none⟩ = some (.int .i64 o.e.m.kind) := BO.cell 4
      have o5 : wr.cell? ⟨w.heap.size, 5, none⟩ = some (.string o.e.m.key) := BO.cell 5
      have o6 : wr.cell? ⟨w.heap.size, 6, none⟩ = some (.string o.e.m.en) := BO.cell 6
      have o7 : wr.cell? ⟨w.heap.size, 7, none⟩ = some (.string o.e.m.val) := BO.cell 7
      have o8 : wr.cell? ⟨w.heap.size, 8, none⟩ = some (.int .i64 o.e.m.exp) := BO.cell 8
      have o9 : wr.cell? ⟨w.heap.size, 9, none⟩ = some (.int .i64 o.e.m.at_.1) := BO.cell 9
      have o10 : wr.cell? ⟨w.heap.size, 10, none⟩ = some (.int .i64 o.e.m.at_.2.1) := BO.cell 10
      have o11 : wr.cell? ⟨w.heap.size, 11, none⟩ = some (.int .i64 o.e.m.at_.2.2) := BO.cell 11
      have o12 : wr.cell? ⟨w.heap.size, 12, none⟩ = some (.slice o.e.A o.e.n o.e.c) := BO.cell 12
      have HNX := Lib.hid hnx
      clear hc hx hnx
      obtain ⟨G, hG⟩ : ∃ G, goneB o (hp x) = G := ⟨_, rfl⟩
      rw [hG] at HNX
      have hcase : (G = true ∧ (o.kind % 5 == 2) = true ∧ (x.to == o.to) = true ∧ (x.e.m.at_.1 == o.e.m.at_.1) = true ∧ (x.e.m.at_.2.1 == o.e.m.at_.2.1) = true ∧ (x.e.m.at_.2.2 == o.e.m.at_.2.2) = true) ∨
          (G = true ∧ (o.kind % 5 == 2) = false ∧ (o.kind % 5 == 3) = true ∧ decide (x.until_ ≤ o.now) = true) ∨
          (G = false ∧ (o.kind % 5 == 2) = true ∧ (o.kind % 5 == 3) = false ∧ (x.to == o.to) = false) ∨
          (G = false ∧ (o.kind % 5 == 2) = true ∧ (o.kind % 5 == 3) = false ∧ (x.to == o.to) = true ∧ (x.e.m.at_.1 == o.e.m.at_.1) = false) ∨
          (G = false ∧ (o.kind % 5 == 2) = true ∧ (o.kind % 5 == 3) = false ∧ (x.to == o.to) = true ∧ (x.e.m.at_.1 == o.e.m.at_.1) = true ∧ (x.e.m.at_.2.1 == o.e.m.at_.2.1) = false) ∨
          (G = false ∧ (o.kind % 5 == 2) = true ∧ (o.kind % 5 == 3) = false ∧ (x.to == o.to) = true ∧ (x.e.m.at_.1 == o.e.m.at_.1) = true ∧ (x.e.m.at_.2.1 == o.e.m.at_.2.1) = true ∧ (x.e.m.at_.2.2 == o.e.m.at_.2.2) = false) ∨
          (G = false ∧ (o.kind % 5 == 2) = false ∧ (o.kind % 5 == 3) = true ∧ decide (x.until_ ≤ o.now) = false) := by
        rw [← hG]
        unfold goneB hp
        dsimp only
        generalize x.e.m.at_ = p
        generalize o.e.m.at_ = q
        obtain ⟨p1, p2, p3⟩ := p
        obtain ⟨q1, q2, q3⟩ := q
        rcases hk2 with h | h <;> rw [h] <;> by_cases e0 : x.to = o.to <;> by_cases e1 : p1 = q1 <;> by_cases e2 : p2 = q2 <;> by_cases e3 : p3 = q3 <;> by_cases e4 : x.until_ ≤ o.now <;> simp [e0, e1, e2, e3, e4]
      clear hG
      rcases hcase with ⟨rfl, d1, d2, d3, d4, d5⟩ | ⟨rfl, d1, d2, d3⟩ | ⟨rfl, d1, d2, d3⟩ | ⟨rfl, d1, d2, d3, d4⟩ | ⟨rfl, d1, d2, d3, d4, d5⟩ | ⟨rfl, d1, d2, d3, d4, d5, d6⟩ | ⟨rfl, d1, d2, d3⟩
      case' inl =>
        go_upto_region 5 with fail
        go_region
        go_wp2_with fail
        go_roundw
        case rel => exact ⟨k + 1, D, by go_num, by omega, own_below HO.out ((Below.refl _ _).drew), by rw [HNX.out]; simp, BO.drew, below_drewN hB 1⟩
        case measure => simp [intOf]; omega
      case' inr.inl =>
        go_upto_region 5 with fail
        go_region
        go_wp2_with fail
        go_roundw
        case rel => exact ⟨k + 1, D, by go_num, by omega, own_below HO.out ((Below.refl _ _).drew), by rw [HNX.out]; simp, BO.drew, below_drewN hB 1⟩
        case measure => simp [intOf]; omega
      all_goals
        go_upto_region 5 with fail
        go_region
        clear o0 o1 o2 o3 o4 o5 o6 o7 o8 o9 o10 o11 o12
        obtain ⟨wd, hwd⟩ : ∃ wd, wr.drew = wd := ⟨_, rfl⟩
        have hOd : OwnH wd (w.heap.size + 1) u6 D := by rw [← hwd]; exact own_below HO.out ((Below.refl _ _).drew)
        have BOd : Blk wd w.heap.size 35 (opC o) := by rw [← hwd]; exact BO.drew
        have hBd : Below W.heap.size W wd := by rw [← hwd]; exact below_drewN hB 1
        have r0 : wd.cell? ⟨b, off + k * 12, none⟩ = some (.int .i64 x.to) := by rw [← hwd]; exact q0
        have r1 : wd.cell? ⟨b, off + k * 12 + 1, none⟩ = some (.int .i64 x.until_) := by rw [← hwd]; exact q1
        have r2 : wd.cell? ⟨b, off + k * 12 + 2, none⟩ = some (.int .i64 x.e.m.tab) := by rw [← hwd]; exact q2
        have r3 : wd.cell? ⟨b, off + k * 12 + 3, none⟩ = some (.int .i64 x.e.m.kind) := by rw [← hwd]; exact q3
        have r4 : wd.cell? ⟨b, off + k * 12 + 4, none⟩ = some (.string x.e.m.key) := by rw [← hwd]; exact q4
        have r5 : wd.cell? ⟨b, off + k * 12 + 5, none⟩ = some (.string x.e.m.en) := by rw [← hwd]; exact q5
        have r6 : wd.cell? ⟨b, off + k * 12 + 6, none⟩ = some (.string x.e.m.val) := by rw [← hwd]; exact q6
        have r7 : wd.cell? ⟨b, off + k * 12 + 7, none⟩ = some (.int .i64 x.e.m.exp) := by rw [← hwd]; exact q7
        have r8 : wd.cell? ⟨b, off + k * 12 + 8, none⟩ = some (.int .i64 x.e.m.at_.1) := by rw [← hwd]; exact q8
        have r9 : wd.cell? ⟨b, off + k * 12 + 9, none⟩ = some (.int .i64 x.e.m.at_.2.1) := by rw [← hwd]; exact q9
        have r10 : wd.cell? ⟨b, off + k * 12 + 10, none⟩ = some (.int .i64 x.e.m.at_.2.2) := by rw [← hwd]; exact q10
        have r11 : wd.cell? ⟨b, off + k * 12 + 11, none⟩ = some (.slice x.e.A x.e.n x.e.c) := by rw [← hwd]; exact q11
        rw [hwd]
        have hsd : W.heap.size ≤ wd.heap.size := hBd.size
        have hbs : w.heap.size + 1 ≤ wd.heap.size := by omega
        have hll : D.length ≤ 1000000 := by omega
        have HOd := Lib.hid hOd
        clear hOd q0 q1 q2 q3 q4 q5 q6 q7 q8 q9 q10 q11 HO BO hB
        go_wp2_with (at_builtin; go_must (refine append_hint wd x _ rfl _ rfl _ _ rfl (w.heap.size + 1) _ D rfl HOd.out rfl hll hbs ?_); intro v7 w7 O7 G7 L7)
        go_roundw
        case rel =>
          refine ⟨k + 1, D ++ [x], by go_num, by omega, O7, by rw [HNX.out]; simp, ?_, ?_⟩
          · exact (BOd.alloc _).grown G7 (fun e => by have := (World.ownsRow.lt HOd.out _ e.symm).1; omega)
          · exact Below.grown (hBd.alloc hsd _) G7 (by rw [World.size_alloc]; omega) (fun q hq => by have := (World.ownsRow.lt HOd.out _ hq).1; have := HSW.out; omega)
        case measure => simp [intOf]; omega
    · have hD2 : D = L.filter (fun x => !goneB o (hp x)) := by
        have := HD.out
        rwa [List.take_of_length_le (by have := HN.out; omega)] at this
      obtain ⟨A6, c6, rfl, hle6, hz6, hg6⟩ := own_form HO.out
      have F : Hid (LeftE w base n o (L.map hp) (.returned (.tuple #[.slice A6 D.length c6, .int .i64 ((n : Int) - D.length)])) wr) := Lib.hid (by
        refine ⟨A6, D.length, c6, D, rfl, ⟨Reads.of_own HO.out, fun x hx => ?_, fun x hx => ?_, fun ad ha => (World.ownsRow.lt HO.out ad.block (by rw [ha]; rfl)).2⟩, ?_, fun ad ha => ?_, hz6, ⟨by omega, hle6⟩, bW.trans (hB.mono bW.size)⟩
        · rw [hD2] at hx
          exact (HL.out.el x (List.mem_filter.1 hx).1).below (hB.mono (Nat.le_trans hb bW.size))
        · rw [hD2] at hx
          exact HL.out.ok x (List.mem_filter.1 hx).1
        · rw [hD2, List.filter_map]
          rfl
        · have := (World.ownsRow.lt HO.out ad.block (by rw [ha]; rfl)).1
          omega)
      obtain ⟨nd, hnd⟩ : ∃ nd, D.length = nd := ⟨_, rfl⟩
      rw [hnd] at F hDl hg6 ⊢
      clear HO HD hD2 hnd
      go_wp2_with fail
      go_returns
      exact F.out
end Go.Proofs.Ytfkooohnaodjmaa
