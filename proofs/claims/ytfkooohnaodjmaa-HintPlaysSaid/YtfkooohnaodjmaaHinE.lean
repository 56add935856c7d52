/- Contracts of hint.Store's All: the iterator over hints, each handed out with a row of its own. -/
import Derived.Test.YtfkooohnaodjmaaHinC
import Derived.Test.YtfkooohnaodjmaaRange
import Derived.Shelf.RegionOpen
import Derived.TacticsInMore
import Derived.LoopNIn
import Derived.LoopIn
namespace Go.Proofs.Ytfkooohnaodjmaa
open Go.RowKit Go.Sort Go.Shelf
attribute [local go_sem] Oper.semAt_some

/-- A hint with a row of its own. -/
def OwnHx (w : World) (lo : Nat) (x : HintS) : Prop := OwnSt w lo (.slice x.e.A x.e.n x.e.c) x.e.m.ov ∧ x.e.n = x.e.m.ov.length ∧ okH x
/-- The block that the slice in block g lies in. -/
def outRow (g : Nat) (W : World) : Option Nat := match W.cell? ⟨g, 0, none⟩ with
  | some v => v.ownBlock
  | none => none
/-- What a caller of the iterator may turn: its slice's box and row. -/
structure KpO (g : Nat) (W W' : World) : Prop where
  size : W.heap.size ≤ W'.heap.size
  cells : ∀ k o, W.heap[k]? = some o → o.isCells = true → k ≠ g → some k ≠ outRow g W → W'.heap[k]? = some o
  row : outRow g W' = outRow g W ∨ ∃ q, outRow g W' = some q ∧ W.heap.size ≤ q
theorem KpO.trans {g : Nat} {A B C : World} (h : KpO g A B) (k : KpO g B C) : KpO g A C := by
  refine ⟨Nat.le_trans h.size k.size, fun i o h1 h2 h3 h4 => k.cells i o (h.cells i o h1 h2 h3 h4) h2 h3 (fun e => ?_), ?_⟩
  · rcases h.row with e2 | ⟨q, e2, hq⟩
    · exact h4 (e.trans e2)
    · rw [e2] at e
      injection e with e
      have := (Array.getElem?_eq_some_iff.1 h1).1
      omega
  · rcases k.row with e2 | ⟨q, e2, hq⟩
    · rcases h.row with e3 | ⟨q, e3, hq⟩
      · exact .inl (e2.trans e3)
      · exact .inr ⟨q, e2.trans e3, hq⟩
    · exact .inr ⟨q, e2, Nat.le_trans h.size hq⟩
theorem outRow_eq {g : Nat} {W W' : World} (h : W'.cell? ⟨g, 0, none⟩ = W.cell? ⟨g, 0, none⟩) : outRow g W' = outRow g W := by unfold outRow; rw [h]
theorem KpO.of_below {g : Nat} {W W' : World} (h : Below W.heap.size W W') (hg : g < W.heap.size) : KpO g W W' :=
  ⟨h.size, fun k _ h1 _ _ _ => (h.block k (Array.getElem?_eq_some_iff.1 h1).1).trans h1, .inl (outRow_eq (h.cell (p := ⟨g, 0, none⟩) hg))⟩
theorem KpO.putObj {g n0 : Nat} (W : World) (l : Nat) (o o' : Obj) (hl : n0 ≤ l) (hg : g < n0) (h : W.heap[l]? = some o) (h1 : o.isCells = false) : KpO g W (W.putObj l o') := by
  refine ⟨(World.putObj_size ..).symm ▸ Nat.le_refl _, fun k u h2 h3 _ _ => ?_, .inl (outRow_eq ?_)⟩
  · have hne : l ≠ k := fun e => by subst e; rw [h] at h2; injection h2 with h2; subst h2; rw [h1] at h3; cases h3
    exact (World.putObj_heap_other (Ne.symm hne)).trans h2
  · exact World.cell?_of_block (World.putObj_heap_other (by show g ≠ l; omega))
/-- A row away from the caller's slice stands. -/
theorem KpO.reads {g : Nat} {W W' : World} (h : KpO g W W') {B k n : Nat} {A : Option Addr} {xs : List Value} (hk : 0 < k) (hr : Reads W B k A n xs) (h1 : ∀ ad, A = some ad → 0 < n → ad.block ≠ g ∧ some ad.block ≠ outRow g W) : Reads W' B k A n xs := by
  refine ⟨hr.1, fun h0 => ?_⟩
  obtain ⟨ad, hA, hb, hc⟩ := hr.2 h0
  have hl : 0 < xs.length := by rw [hr.1]; exact Nat.mul_pos h0 hk
  obtain ⟨n1, n2⟩ := h1 ad hA h0
  have hc0 := hc 0 _ (List.getElem?_eq_getElem hl)
  have ho : ∃ o, W.heap[ad.block]? = some o ∧ o.isCells = true := by
    unfold World.cell? at hc0
    rw [block_of_add] at hc0
    split at hc0
    · rename_i cs t fz he
      exact ⟨_, he, rfl⟩
    · cases hc0
  obtain ⟨o, ho, hoc⟩ := ho
  refine ⟨ad, hA, hb, fun j u hu => ?_⟩
  rw [← hc j u hu]
  exact World.cell?_of_block (by rw [block_of_add, h.cells _ o ho hoc n1 n2, ho])

set_option maxRecDepth 100000 in
theorem hint_All (gs : Nat) (w : World) : Calls Try.prog 29 #[.pointer (some ⟨gs, 0, none⟩)] w fun e w' => e = .returned (.func (.func 53) #[] #[.pointer (some ⟨w.heap.size, 0, none⟩)]) ∧ w' = w.alloc (.cells #[.pointer (some ⟨gs, 0, none⟩)] 23) := by
  go_enter Try.func29, Try.ntmps29
  go_wp2_with fail
  go_ret
  exact ⟨rfl, rfl⟩

set_option maxRecDepth 100000 in
set_option maxHeartbeats 4000000 in
theorem hints_stops (n gb gs base g n0 : Nat) (v : Value) (L : List HintS) (w : World) (hb : Blk w gb 23 #[.pointer (some ⟨gs, 0, none⟩)]) (hS : StH w gs base v L) (hn : L.length ≤ 1000) (hg : n0 ≤ g ∧ g < w.heap.size) (ho : outRow g w = none)
    (hlow : ∀ x ∈ L, ∀ ad, x.e.A = some ad → ad.block < n0) :
    SeqG n Try.prog 53 #[.pointer (some ⟨gb, 0, none⟩)] (fun x : HintS => #[.agg (hintC x)]) (fun x W => OwnHx W w.heap.size x) (KpO g) (fun xs => xs.map hp = L.map hp) (fun _ => True) 1000001 w := fun lp J Jx W hW hJ hJx hY h0 => by
  refine callsIn_of_wp Try.func53 rfl trivial ?_ rfl
  simp only [Try.ntmps53, List.size_toArray, List.length_cons, List.length_nil, Nat.reduceAdd, Nat.reduceSub, Array.replicate_succ, Array.replicate_zero, List.push_toArray, List.append_toArray, List.nil_append, List.cons_append]
  have hb1 := hb.below hW hb.lt
  have hS1 := hS.below hW
  have hn0 : n0 ≤ w.heap.size := by omega
  have hwW := hW.size
  have hoW : outRow g W = none := (outRow_eq (hW.cell (p := ⟨g, 0, none⟩) hg.2)).trans ho
  obtain ⟨A0, c0, rfl, -, hA0, -⟩ := own_form hS1.own
  have b0 : W.cell? ⟨gb, 0, none⟩ = some (.pointer (some ⟨gs, 0, none⟩)) := hb1.cell 0
  have s0 : W.cell? ⟨gs, 0, none⟩ = some (.slice A0 L.length c0) := hS1.blk.cell 0
  have HC := Lib.hid (hints_Clone A0 L.length c0 L W (Reads.of_own hS1.own) hA0 (by omega))
  have HEL : Hid (∀ x ∈ L, Reads W n0 3 x.e.A x.e.n (x.e.m.ov.flatMap sc)) := Lib.hid (fun x hx => by
    have h1 := (hS1.hang x hx).1
    refine ⟨h1.1, fun h0 => ?_⟩
    obtain ⟨ad, hA, -, hc⟩ := h1.2 h0
    exact ⟨ad, hA, hlow x hx ad hA, hc⟩)
  have HOK := Lib.hid hS1.ok
  have HY := Lib.hid hY
  have HJ := Lib.hid hJ
  obtain ⟨m, hm⟩ : ∃ m, L.length = m := ⟨_, rfl⟩
  have HM := Lib.hid hm
  rw [hm] at s0 HC hn
  clear hY hJ hJx hb hS hS1 hb1 hm ho hlow hA0
  gi_wp2
  refine ⟨trivial, fun h => (by cases h), ?_⟩
  refine (callsIn_wide.2 HC.out).mono ?_
  clear HC b0 s0
  rintro e W1 ⟨v1, rfl, O1, b1⟩
  obtain ⟨Ac, cc, rfl, -, -, hgc⟩ := own_form O1
  have hR1 := Reads.of_own O1
  have hJ1 := HJ.out [] W W1 none h0 (grown_of_below b1 _) (fun r h => by cases h)
  have hAc : ∀ ad, Ac = some ad → 0 < m → ad.block ≠ g ∧ some ad.block ≠ outRow g W1 := fun ad ha h0 => by
    rw [outRow_eq (b1.cell (p := ⟨g, 0, none⟩) (by show g < _; omega)), hoW]
    obtain ⟨g2, e2, h3, _⟩ := hgc (by rw [HM.out]; exact h0)
    rw [ha] at e2
    injection e2 with e2
    subst e2
    exact ⟨by show g2 ≠ g; omega, by simp⟩
  have hor : ∀ q, outRow g W1 = some q → n0 ≤ q := fun q hq => by
    rw [outRow_eq (b1.cell (p := ⟨g, 0, none⟩) (by show g < _; omega)), hoW] at hq
    cases hq
  have hE1 : ∀ x ∈ L, Reads W1 n0 3 x.e.A x.e.n (x.e.m.ov.flatMap sc) := fun x hx => (HEL.out x hx).below (b1.mono (by omega))
  have HE1 := Lib.hid hE1
  have hs1 := b1.size
  rw [HM.out] at hR1
  have HR1 := Lib.hid hR1
  have HAc := Lib.hid hAc
  have HOR := Lib.hid hor
  rw [HM.out]
  clear O1 b1 hR1 hAc hor hE1 hgc HEL h0 hoW
  gi_wp2
  gi_loopw [4, 11, 12, 13, 14, 15, 16, 17, 18, 19, 20, 21, 22, 23] (fun _ v11 _ _ _ _ _ _ _ _ _ _ _ _ wr => ∃ (k : Nat) (pre : List HintS), v11 = .int .i64 k ∧ k ≤ m ∧ pre.length = k ∧ pre.map hp = (L.take k).map hp ∧ J pre wr ∧ Reads wr wr.heap.size 12 Ac m (L.flatMap hintL) ∧ (∀ ad, Ac = some ad → 0 < m → ad.block ≠ g ∧ some ad.block ≠ outRow g wr) ∧ (∀ q, outRow g wr = some q → n0 ≤ q) ∧ (∀ x ∈ L, Reads wr n0 3 x.e.A x.e.n (x.e.m.ov.flatMap sc)) ∧ w.heap.size ≤ wr.heap.size) (fun _ v11 _ _ _ _ _ _ _ _ _ _ _ _ _ => m - (intOf v11).toNat)
  case atStart => exact ⟨0, [], rfl, Nat.zero_le _, rfl, rfl, hJ1, HR1.out, HAc.out, HOR.out, HE1.out, by omega⟩
  case round =>
    clear hJ1 HR1 HAc HOR HE1
    obtain ⟨k, pre, rfl, hk, hpl, hpm, hJp, hR, hAc, hor, hE, hws⟩ := hrel
    by_cases hkn : k < m
    · have hkl : k < L.length := by have := HM.out; omega
      obtain ⟨b, off, hA, hbb, hc⟩ := hint_at hR hkl
      subst hA
      have hrow := (hE _ (List.getElem_mem hkl)).more (show n0 ≤ wr.heap.size by omega)
      have hok := HOK.out _ (List.getElem_mem hkl)
      have hnext : (L.take (k + 1)).map hp = (pre ++ [L[k]]).map hp := by rw [List.take_succ_eq_append_getElem hkl, List.map_append, List.map_append, hpm]
      obtain ⟨x, hx⟩ : ∃ x, L[k]'hkl = x := ⟨_, rfl⟩
      rw [hx] at hc hrow hok hnext

      have q0 : wr.cell? ⟨b, off + k * 12, none⟩ = some (.int .i64 x.to) := hc 0 _ (by decide) rfl
      have q1 : wr.cell? ⟨b, off + k * 12 + 1, none⟩ = some (.int .i64 x.until_) := hc 1 _ (by decide) rfl
      have q2 : wr.cell? ⟨b, off + k * 12 + 2, none⟩ = some (.int .i64 x.e.m.tab) := hc 2 _ (by decide) rfl
      have q3 : wr.cell? ⟨b, off + k * 12 + 3, none⟩ = some (.int .i64 x.e.m.kind) := hc 3 _ (by decide) rfl
      have q4 : wr.cell? ⟨b, off + k * 12 + 4, none⟩ = some (.string x.e.m.key) := hc 4 _ (by decide) rfl
      have q5 : wr.cell? ⟨b, off + k * 12 + 5, none⟩ = some (.string x.e.m.en) := hc 5 _ (by decide) rfl
      have q6 : wr.cell? ⟨b, off + k * 12 + 6, none⟩ = some (.string x.e.m.val) := hc 6 _ (by decide) rfl
      have q7 : wr.cell? ⟨b, off + k * 12 + 7, none⟩ = some (.int .i64 x.e.m.exp) := hc 7 _ (by decide) rfl
      have q8 : wr.cell? ⟨b, off + k * 12 + 8, none⟩ = some (.int .i64 x.e.m.at_.1) := hc 8 _ (by decide) rfl
      have q9 : wr.cell? ⟨b, off + k * 12 + 9, none⟩ = some (.int .i64 x.e.m.at_.2.1) := hc 9 _ (by decide) rfl
      have q10 : wr.cell? ⟨b, off + k * 12 + 10, none⟩ = some (.int .i64 x.e.m.at_.2.2) := hc 10 _ (by decide) rfl
      have q11 : wr.cell? ⟨b, off + k * 12 + 11, none⟩ = some (.slice x.e.A x.e.n x.e.c) := hc 11 _ (by decide) rfl
      have HR := Lib.hid hR
      have HAc := Lib.hid hAc
      have HOR := Lib.hid hor
      have HE := Lib.hid hE
      have HNX := Lib.hid hnext
      have B1 := Blk.new wr 45 #[.int .i64 x.to, .int .i64 x.until_, .int .i64 x.e.m.tab, .int .i64 x.e.m.kind, .string x.e.m.key, .string x.e.m.en, .string x.e.m.val, .int .i64 x.e.m.exp, .int .i64 x.e.m.at_.1, .int .i64 x.e.m.at_.2.1, .int .i64 x.e.m.at_.2.2, .slice x.e.A x.e.n x.e.c]
      have ba : Below wr.heap.size wr (wr.alloc (.cells #[.int .i64 x.to, .int .i64 x.until_, .int .i64 x.e.m.tab, .int .i64 x.e.m.kind, .string x.e.m.key, .string x.e.m.en, .string x.e.m.val, .int .i64 x.e.m.exp, .int .i64 x.e.m.at_.1, .int .i64 x.e.m.at_.2.1, .int .i64 x.e.m.at_.2.2, .slice x.e.A x.e.n x.e.c] 45)) := (Below.refl _ _).alloc (Nat.le_refl _) _
      have HCP := Lib.hid (mut_Copy x.e.m x.e.A x.e.n x.e.c (wr.alloc (.cells #[.int .i64 x.to, .int .i64 x.until_, .int .i64 x.e.m.tab, .int .i64 x.e.m.kind, .string x.e.m.key, .string x.e.m.en, .string x.e.m.val, .int .i64 x.e.m.exp, .int .i64 x.e.m.at_.1, .int .i64 x.e.m.at_.2.1, .int .i64 x.e.m.at_.2.2, .slice x.e.A x.e.n x.e.c] 45)) ((hrow.below ba).more ba.size) hok.2 hok.1)
      have hlen : x.e.m.ov.length ≤ 1000000000 := by have := stamps_n hrow; have := hok.1; omega
      unfold mutC at HCP
      have hgw : g < wr.heap.size := by omega
      clear hR hAc hor hE hc hx hrow hbb hok hnext
      gi_wp2
      refine ⟨trivial, fun h => (by cases h), ?_⟩
      refine (callsIn_wide.2 HCP.out).mono ?_
      clear HCP q0 q1 q2 q3 q4 q5 q6 q7 q8 q9 q10 q11
      rintro e w3 ⟨v3, rfl, O3, b3⟩
      obtain ⟨A3, c3, rfl, -, hz3, -⟩ := own_form O3
      have B3 := B1.below b3 B1.lt
      have f3 := B3.frozen
      have hb3 := ba.trans (b3.mono ba.size)
      have BF := ((((((((((B3.set_ 2 (.int .i64 x.e.m.tab)).set_ 3 (.int .i64 x.e.m.kind)).set_ 4 (.string x.e.m.key)).set_ 5 (.string x.e.m.en)).set_ 6 (.string x.e.m.val)).set_ 7 (.int .i64 x.e.m.exp)).set_ 8 (.int .i64 x.e.m.at_.1)).set_ 9 (.int .i64 x.e.m.at_.2.1)).set_ 10 (.int .i64 x.e.m.at_.2.2)).set_ 11 (.slice A3 x.e.m.ov.length c3))
      obtain ⟨x', hx'⟩ : ∃ x' : HintS, x' = ⟨x.to, x.until_, ⟨x.e.m, A3, x.e.m.ov.length, c3⟩⟩ := ⟨_, rfl⟩
      have hbF := ((((((((((hb3.setCell (p := ⟨wr.heap.size, 2, none⟩) (Nat.le_refl _) (.int .i64 x.e.m.tab)).setCell (p := ⟨wr.heap.size, 3, none⟩) (Nat.le_refl _) (.int .i64 x.e.m.kind)).setCell (p := ⟨wr.heap.size, 4, none⟩) (Nat.le_refl _) (.string x.e.m.key)).setCell (p := ⟨wr.heap.size, 5, none⟩) (Nat.le_refl _) (.string x.e.m.en)).setCell (p := ⟨wr.heap.size, 6, none⟩) (Nat.le_refl _) (.string x.e.m.val)).setCell (p := ⟨wr.heap.size, 7, none⟩) (Nat.le_refl _) (.int .i64 x.e.m.exp)).setCell (p := ⟨wr.heap.size, 8, none⟩) (Nat.le_refl _) (.int .i64 x.e.m.at_.1)).setCell (p := ⟨wr.heap.size, 9, none⟩) (Nat.le_refl _) (.int .i64 x.e.m.at_.2.1)).setCell (p := ⟨wr.heap.size, 10, none⟩) (Nat.le_refl _) (.int .i64 x.e.m.at_.2.2)).setCell (p := ⟨wr.heap.size, 11, none⟩) (Nat.le_refl _) (.slice A3 x.e.m.ov.length c3))
      have hgF : w3.grownBy ((((((((((w3.setCell ⟨wr.heap.size, 2, none⟩ (.int .i64 x.e.m.tab)).setCell ⟨wr.heap.size, 3, none⟩ (.int .i64 x.e.m.kind)).setCell ⟨wr.heap.size, 4, none⟩ (.string x.e.m.key)).setCell ⟨wr.heap.size, 5, none⟩ (.string x.e.m.en)).setCell ⟨wr.heap.size, 6, none⟩ (.string x.e.m.val)).setCell ⟨wr.heap.size, 7, none⟩ (.int .i64 x.e.m.exp)).setCell ⟨wr.heap.size, 8, none⟩ (.int .i64 x.e.m.at_.1)).setCell ⟨wr.heap.size, 9, none⟩ (.int .i64 x.e.m.at_.2.1)).setCell ⟨wr.heap.size, 10, none⟩ (.int .i64 x.e.m.at_.2.2)).setCell ⟨wr.heap.size, 11, none⟩ (.slice A3 x.e.m.ov.length c3)) (some wr.heap.size) := (grown_trans' (grown_trans' (grown_trans' (grown_trans' (grown_trans' (grown_trans' (grown_trans' (grown_trans' (grown_trans' (only_set _ wr.heap.size 2 _) (only_set _ wr.heap.size 3 _)) (only_set _ wr.heap.size 4 _)) (only_set _ wr.heap.size 5 _)) (only_set _ wr.heap.size 6 _)) (only_set _ wr.heap.size 7 _)) (only_set _ wr.heap.size 8 _)) (only_set _ wr.heap.size 9 _)) (only_set _ wr.heap.size 10 _)) (only_set _ wr.heap.size 11 _))
      obtain ⟨w4, hw4⟩ : ∃ w4, ((((((((((w3.setCell ⟨wr.heap.size, 2, none⟩ (.int .i64 x.e.m.tab)).setCell ⟨wr.heap.size, 3, none⟩ (.int .i64 x.e.m.kind)).setCell ⟨wr.heap.size, 4, none⟩ (.string x.e.m.key)).setCell ⟨wr.heap.size, 5, none⟩ (.string x.e.m.en)).setCell ⟨wr.heap.size, 6, none⟩ (.string x.e.m.val)).setCell ⟨wr.heap.size, 7, none⟩ (.int .i64 x.e.m.exp)).setCell ⟨wr.heap.size, 8, none⟩ (.int .i64 x.e.m.at_.1)).setCell ⟨wr.heap.size, 9, none⟩ (.int .i64 x.e.m.at_.2.1)).setCell ⟨wr.heap.size, 10, none⟩ (.int .i64 x.e.m.at_.2.2)).setCell ⟨wr.heap.size, 11, none⟩ (.slice A3 x.e.m.ov.length c3)) = w4 := ⟨_, rfl⟩
      rw [hw4] at BF hbF hgF
      have hJF := HJ.out pre wr w4 none hJp (grown_of_below hbF _) (fun r h => by cases h)
      have hOF : OwnHx w4 w.heap.size x' := by
        rw [hx']
        refine ⟨own_base (World.ownsRow.kept O3 hgF (.inr (fun e => by have := (World.ownsRow.lt O3 _ e).1; rw [World.size_alloc] at this; omega))) (by rw [World.size_alloc]; omega), rfl, hlen, hz3⟩
      obtain ⟨fn, tmps, assign, body, hy, hRd⟩ := HY.out pre x' w4 hJF hOF (by omega)
      rw [hx'] at hy
      unfold hintC at hy
      dsimp only at hy
      have HX' := Lib.hid hx'
      have HBF := Lib.hid hbF
      have HBX := Lib.hid BF
      clear hx' hbF hgF hb3 b3 ba B1 O3 hJp hJF hOF BF hz3
      have C3 := B3.cell
      unfold mutC
      have z0 : w4.cell? ⟨wr.heap.size, 0, none⟩ = some (.int .i64 x.to) := by have := HBX.out.cell 0; simpa using this
      have z1 : w4.cell? ⟨wr.heap.size, 1, none⟩ = some (.int .i64 x.until_) := by have := HBX.out.cell 1; simpa using this
      have z2 : w4.cell? ⟨wr.heap.size, 2, none⟩ = some (.int .i64 x.e.m.tab) := by have := HBX.out.cell 2; simpa using this
      have z3 : w4.cell? ⟨wr.heap.size, 3, none⟩ = some (.int .i64 x.e.m.kind) := by have := HBX.out.cell 3; simpa using this
      have z4 : w4.cell? ⟨wr.heap.size, 4, none⟩ = some (.string x.e.m.key) := by have := HBX.out.cell 4; simpa using this
      have z5 : w4.cell? ⟨wr.heap.size, 5, none⟩ = some (.string x.e.m.en) := by have := HBX.out.cell 5; simpa using this
      have z6 : w4.cell? ⟨wr.heap.size, 6, none⟩ = some (.string x.e.m.val) := by have := HBX.out.cell 6; simpa using this
      have z7 : w4.cell? ⟨wr.heap.size, 7, none⟩ = some (.int .i64 x.e.m.exp) := by have := HBX.out.cell 7; simpa using this
      have z8 : w4.cell? ⟨wr.heap.size, 8, none⟩ = some (.int .i64 x.e.m.at_.1) := by have := HBX.out.cell 8; simpa using this
      have z9 : w4.cell? ⟨wr.heap.size, 9, none⟩ = some (.int .i64 x.e.m.at_.2.1) := by have := HBX.out.cell 9; simpa using this
      have z10 : w4.cell? ⟨wr.heap.size, 10, none⟩ = some (.int .i64 x.e.m.at_.2.2) := by have := HBX.out.cell 10; simpa using this
      have z11 : w4.cell? ⟨wr.heap.size, 11, none⟩ = some (.slice A3 x.e.m.ov.length c3) := by have := HBX.out.cell 11; simpa using this
      gi_wp2
      clear z0 z1 z2 z3 z4 z5 z6 z7 z8 z9 z10 z11 hw4 f3 C3
      refine ⟨fun h => (by cases h), ?_⟩
      refine hRd.mono ?_
      rintro e w5 (⟨rfl, hJ5, kp⟩ | ⟨rfl, hJx5⟩)
      · have hk4 : KpO g wr w4 := KpO.of_below HBF.out hgw
        have hk5 := hk4.trans kp
        have hR5 := (hk5.reads (by decide) HR.out HAc.out).more hk5.size
        have hE5 : ∀ x ∈ L, Reads w5 n0 3 x.e.A x.e.n (x.e.m.ov.flatMap sc) := fun y hy2 => hk5.reads (by decide) (HE.out y hy2) (fun ad ha h0 => by
          obtain ⟨ad2, ha2, hb2, -⟩ := (HE.out y hy2).2 h0
          rw [ha] at ha2
          injection ha2 with ha2
          rw [← ha2] at hb2
          exact ⟨by omega, fun e => by have := HOR.out _ e.symm; omega⟩)
        have hA5 : ∀ ad : Addr, (some ⟨b, off, none⟩ : Option Addr) = some ad → 0 < m → ad.block ≠ g ∧ some ad.block ≠ outRow g w5 := fun ad ha h0 => by
          obtain ⟨h1, h2⟩ := HAc.out ad ha h0
          refine ⟨h1, fun e => ?_⟩
          rcases hk5.row with e2 | ⟨q, e2, hq⟩
          · exact h2 (e.trans e2)
          · rw [e2] at e
            injection e with e
            injection ha with ha
            subst ha
            obtain ⟨b2, o2, ha2, hb2, -⟩ := hint_at HR.out hkl
            injection ha2 with ha2
            injection ha2 with ha2
            have : b = q := e
            omega
        have ho5 : ∀ q, outRow g w5 = some q → n0 ≤ q := fun q hq => by
          rcases hk5.row with e2 | ⟨q2, e2, hq2⟩
          · rw [e2] at hq; exact HOR.out q hq
          · rw [e2] at hq; injection hq with hq; omega
        have HH := Lib.hid (And.intro hJ5 (And.intro hR5 (And.intro hA5 (And.intro ho5 (And.intro hE5 (Nat.le_trans hws hk5.size))))))
        have HP : Hid ((pre ++ [x']).map hp = (L.take (k + 1)).map hp) := Lib.hid (by
          rw [HNX.out, List.map_append, List.map_append, HX'.out]
          rfl)
        clear hJ5 kp hk4 hk5 hR5 hE5 hA5 ho5 hy hRd
        gi_wp2
        go_roundw
        case rel => exact ⟨k + 1, pre ++ [x'], by go_num, by omega, by simp [hpl], HP.out, HH.out.1, HH.out.2.1, HH.out.2.2.1, HH.out.2.2.2.1, HH.out.2.2.2.2.1, HH.out.2.2.2.2.2⟩
        case measure => simp [intOf]; omega
      · clear hy hRd
        gi_wp2
        refine bodyPost_ret (results_none rfl _ _ _) rfl ?_
        exact ⟨⟨_, rfl⟩, .inr ⟨pre ++ [x'], trivial, hJx5⟩⟩
    · have HX : Hid (pre.map hp = L.map hp) := Lib.hid (by rw [hpm, List.take_of_length_le (by rw [HM.out]; omega)])
      clear hR hAc hor hE
      gi_wp2
      go_end0
      exact ⟨⟨_, rfl⟩, .inl ⟨pre, HX.out, hJp⟩⟩
end Go.Proofs.Ytfkooohnaodjmaa
