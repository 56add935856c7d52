/- Contract of mut.Copies. -/
import Derived.Test.YthbhbechemnidaaDoorMutR
namespace Go.Proofs.YthbhbechemnidaaDoor
open Go.RowKit Go.Sort

theorem own_made {w : World} {base size : Nat} {e : TypeId} (cur : Array Value) (cap : Nat) (hb : base ≤ w.heap.size) (hm : cap ≤ maxLen) (hs : cur.size = cap * size) : (w.alloc (.cells cur e)).ownsRow base e size (.slice (some ⟨w.heap.size, 0, none⟩) 0 cap) 0 [] := World.ownsRow_made w cur cap hb hm hs
def CpRel (w : World) (M : List Mut) (n : Nat) (v3 vk : Value) (wr : World) : Prop :=
  ∃ k : Nat, vk = .int .i64 k ∧ k ≤ n ∧ OwnM wr w.heap.size w.heap.size v3 (M.take k) ∧ Below w.heap.size w wr
def CopiesTo (w : World) (M : List Mut) (e : Ending) (w' : World) : Prop := ∃ v', e = .returned v' ∧ OwnM w' w.heap.size w.heap.size v' M ∧ Below w.heap.size w w'

set_option maxRecDepth 100000 in
set_option maxHeartbeats 4000000 in
theorem mut_Copies (A : Option Addr) (n c : Nat) (M : List Mut) (w : World) (hr : RdM w A n M) (hn : n ≤ 1000000) :
    Calls Tryd.prog 31 #[.slice A n c] w (CopiesTo w M) := by
  have hll := hr.n_eq
  have HR := Lib.hid hr
  have HLL := Lib.hid hll
  obtain ⟨i0, hi, hz0, hz1, hz2⟩ := info_parts info_mut
  have hmk := run_make (P := Tryd.prog) w 22 35 i0 (.agg #[.int .i64 0, .int .i64 0, .string ⟨#[]⟩, .string ⟨#[]⟩, .string ⟨#[]⟩, .int .i64 0, .int .i64 0, .int .i64 0, .int .i64 0, .slice none 0 0]) Tryd.underlying22 hi hz0 .i64 .i64 0 (n : Int) (Int.le_refl _) (by omega) (by rw [hz2]; omega) (by omega)
  rw [hz1, Int.toNat_zero, Int.toNat_natCast] at hmk
  have O0 : OwnM (w.alloc (.cells (madeCells (Value.agg #[.int .i64 0, .int .i64 0, .string ⟨#[]⟩, .string ⟨#[]⟩, .string ⟨#[]⟩, .int .i64 0, .int .i64 0, .int .i64 0, .int .i64 0, .slice none 0 0]).cells (n * 10)) 35)) w.heap.size w.heap.size (.slice (some ⟨w.heap.size, 0, none⟩) 0 n) [] :=
    ⟨[], rfl, own_made _ _ (Nat.le_refl _) (by unfold maxLen; omega) (size_madeCells _ _), Hangs.nil_, fun _ h => by (cases h), fun _ h => by cases h⟩
  have hB : Below w.heap.size w (w.alloc (.cells (madeCells (Value.agg #[.int .i64 0, .int .i64 0, .string ⟨#[]⟩, .string ⟨#[]⟩, .string ⟨#[]⟩, .int .i64 0, .int .i64 0, .int .i64 0, .int .i64 0, .slice none 0 0]).cells (n * 10)) 35)) := (Below.refl _ _).alloc (Nat.le_refl _) _
  obtain ⟨W0, hW0⟩ : ∃ W0, w.alloc (.cells (madeCells (Value.agg #[.int .i64 0, .int .i64 0, .string ⟨#[]⟩, .string ⟨#[]⟩, .string ⟨#[]⟩, .int .i64 0, .int .i64 0, .int .i64 0, .int .i64 0, .slice none 0 0]).cells (n * 10)) 35) = W0 := ⟨_, rfl⟩
  rw [hW0] at O0 hB hmk
  clear hr hll hi hz0 hz1 hz2 hW0
  go_enter Tryd.func31, Tryd.ntmps31
  go_wp2_with fail
  clear hmk
  go_loopw [3, 5, 11] (fun v3 _ v11 wr => CpRel w M n v3 v11 wr) (fun _ _ v11 _ => n - (RowKit.intOf v11).toNat)
  case atStart => exact ⟨0, rfl, Nat.zero_le _, O0, hB⟩
  case round =>
    clear O0 hB
    obtain ⟨k, rfl, hk, hO, hB⟩ := hrel
    have HO := Lib.hid hO
    clear hO
    by_cases hkn : k < n
    · have hkT : k < M.length := by have := HLL.out; omega
      obtain ⟨x, b, off, hx, hA, hb, hc, hrx, hz, hz2⟩ := HR.out.at_ hkT
      subst hA
      have HZ2 := Lib.hid hz2
      have HF : Hid (M.take k ++ [x.m] = M.take (k + 1)) := Lib.hid (by rw [hx, List.take_succ_eq_append_getElem hkT])
      have hrX := Lib.hid ((((hrx.below hB).more hB.size).alloc (Nat.le_refl _) (.cells (mutC x.m (.slice x.A x.n x.c)) 35)).more (B' := (wr.alloc (.cells (mutC x.m (.slice x.A x.n x.c)) 35)).heap.size) (by simp))
      have hol : x.m.ov.length ≤ 1000000000 := by
        have h9 := stamps_n hrx
        omega
      clear hx hrx hz2
      have c0 : wr.cell? ⟨b, off + k * 10, none⟩ = some (.int .i64 x.m.tab) := (World.cell?_of_block (hB.block b hb)).trans (hc 0 _ (by decide) rfl)
      have c1 : wr.cell? ⟨b, off + k * 10 + 1, none⟩ = some (.int .i64 x.m.kind) := (World.cell?_of_block (hB.block b hb)).trans (hc 1 _ (by decide) rfl)
      have c2 : wr.cell? ⟨b, off + k * 10 + 2, none⟩ = some (.string x.m.key) := (World.cell?_of_block (hB.block b hb)).trans (hc 2 _ (by decide) rfl)
      have c3 : wr.cell? ⟨b, off + k * 10 + 3, none⟩ = some (.string x.m.en) := (World.cell?_of_block (hB.block b hb)).trans (hc 3 _ (by decide) rfl)
      have c4 : wr.cell? ⟨b, off + k * 10 + 4, none⟩ = some (.string x.m.val) := (World.cell?_of_block (hB.block b hb)).trans (hc 4 _ (by decide) rfl)
      have c5 : wr.cell? ⟨b, off + k * 10 + 5, none⟩ = some (.int .i64 x.m.exp) := (World.cell?_of_block (hB.block b hb)).trans (hc 5 _ (by decide) rfl)
      have c6 : wr.cell? ⟨b, off + k * 10 + 6, none⟩ = some (.int .i64 x.m.at_.1) := (World.cell?_of_block (hB.block b hb)).trans (hc 6 _ (by decide) rfl)
      have c7 : wr.cell? ⟨b, off + k * 10 + 7, none⟩ = some (.int .i64 x.m.at_.2.1) := (World.cell?_of_block (hB.block b hb)).trans (hc 7 _ (by decide) rfl)
      have c8 : wr.cell? ⟨b, off + k * 10 + 8, none⟩ = some (.int .i64 x.m.at_.2.2) := (World.cell?_of_block (hB.block b hb)).trans (hc 8 _ (by decide) rfl)
      have c9 : wr.cell? ⟨b, off + k * 10 + 9, none⟩ = some (.slice x.A x.n x.c) := (World.cell?_of_block (hB.block b hb)).trans (hc 9 _ (by decide) rfl)
      clear hc
      have BT := Blk.new wr 35 (mutC x.m (.slice x.A x.n x.c))
      have d0 : (wr.alloc (.cells (mutC x.m (.slice x.A x.n x.c)) 35)).cell? ⟨wr.heap.size, 0, none⟩ = some (.int .i64 x.m.tab) := BT.cell 0
      have d1 : (wr.alloc (.cells (mutC x.m (.slice x.A x.n x.c)) 35)).cell? ⟨wr.heap.size, 1, none⟩ = some (.int .i64 x.m.kind) := BT.cell 1
      have d2 : (wr.alloc (.cells (mutC x.m (.slice x.A x.n x.c)) 35)).cell? ⟨wr.heap.size, 2, none⟩ = some (.string x.m.key) := BT.cell 2
      have d3 : (wr.alloc (.cells (mutC x.m (.slice x.A x.n x.c)) 35)).cell? ⟨wr.heap.size, 3, none⟩ = some (.string x.m.en) := BT.cell 3
      have d4 : (wr.alloc (.cells (mutC x.m (.slice x.A x.n x.c)) 35)).cell? ⟨wr.heap.size, 4, none⟩ = some (.string x.m.val) := BT.cell 4
      have d5 : (wr.alloc (.cells (mutC x.m (.slice x.A x.n x.c)) 35)).cell? ⟨wr.heap.size, 5, none⟩ = some (.int .i64 x.m.exp) := BT.cell 5
      have d6 : (wr.alloc (.cells (mutC x.m (.slice x.A x.n x.c)) 35)).cell? ⟨wr.heap.size, 6, none⟩ = some (.int .i64 x.m.at_.1) := BT.cell 6
      have d7 : (wr.alloc (.cells (mutC x.m (.slice x.A x.n x.c)) 35)).cell? ⟨wr.heap.size, 7, none⟩ = some (.int .i64 x.m.at_.2.1) := BT.cell 7
      have d8 : (wr.alloc (.cells (mutC x.m (.slice x.A x.n x.c)) 35)).cell? ⟨wr.heap.size, 8, none⟩ = some (.int .i64 x.m.at_.2.2) := BT.cell 8
      have d9 : (wr.alloc (.cells (mutC x.m (.slice x.A x.n x.c)) 35)).cell? ⟨wr.heap.size, 9, none⟩ = some (.slice x.A x.n x.c) := BT.cell 9
      have HO1 := Lib.hid (HO.out.below ((Below.refl _ _).alloc (Nat.le_refl _) (.cells (mutC x.m (.slice x.A x.n x.c)) 35)))
      have hB1 := hB.alloc hB.size (.cells (mutC x.m (.slice x.A x.n x.c)) 35)
      go_wp2_with fail
      clear c0 c1 c2 c3 c4 c5 c6 c7 c8 c9 d0 d1 d2 d3 d4 d5 d6 d7 d8 d9 BT HO hB
      change Calls _ _ _ (wr.alloc (.cells (mutC x.m (.slice x.A x.n x.c)) 35)) _
      generalize wr.alloc (.cells (mutC x.m (.slice x.A x.n x.c)) 35) = W1 at *
      refine (mut_Copy x.m x.A x.n x.c W1 hrX.out HZ2.out hz).mono ?_
      rintro y w2 ⟨v9, rfl, O9, b9⟩
      have HO2 := Lib.hid (HO1.out.below b9)
      have H22 := Lib.hid (HO1.out.lt)
      have hB2 := hB1.trans (b9.mono hB1.size)
      have hs1 := hB1.size
      have hs2 := b9.size
      clear b9 HO1 hrX
      obtain ⟨A9, c9, rfl, -, hAc, -⟩ := own_form O9
      have O := Lib.hid O9
      have HAC := Lib.hid hAc
      clear O9 hAc
      have hbs : w.heap.size ≤ w2.heap.size := Nat.le_trans hs1 hs2
      have hlen : (M.take k).length ≤ 1000000000 := by rw [List.length_take]; omega
      have HNE : Hid (∀ ad, A9 = some ad → u3.ownBlock ≠ some ad.block) := Lib.hid (fun ad hA e => by
        have h1 := (H22.out _ e).2
        have h2 := (World.ownsRow.lt O.out ad.block (by rw [hA]; rfl)).1
        omega)
      have HLO : Hid (∀ ad, A9 = some ad → w.heap.size ≤ ad.block ∧ ad.block < w2.heap.size) := Lib.hid (fun ad hA => by
        have h2 := World.ownsRow.lt O.out ad.block (by rw [hA]; rfl)
        omega)
      unfold mutC
      go_wp2_with (at_builtin; go_must (refine append_mut_u w2 x.m A9 x.m.ov.length c9 _ (by unfold mutC; simp) rfl _ _ rfl w.heap.size w.heap.size _ (M.take k) rfl HO2.out (Reads.of_own O.out) HNE.out HLO.out ⟨hol, HAC.out⟩ rfl hlen hbs ?_); intro v7 w7 O7 G7 _)
      rw [HF.out] at O7
      have hB7 := Below.grown (hB2.alloc hB2.size (.cells _ 35)) G7 (by rw [World.size_alloc]; omega) (fun q hq => (HO2.out.lt _ hq).1)
      clear HO2 O G7 hB1 hB2
      go_roundw
      case rel => exact ⟨k + 1, by go_num, by omega, O7, hB7⟩
      case measure => simp [RowKit.intOf]; omega
    · have hkn : k = n := by omega
      subst hkn
      have HO2 := HO.out
      rw [List.take_of_length_le (by rw [HLL.out]; exact Nat.le_refl _)] at HO2
      go_wp2_with fail
      go_ret
      exact ⟨_, rfl, HO2, hB⟩
end Go.Proofs.YthbhbechemnidaaDoor
