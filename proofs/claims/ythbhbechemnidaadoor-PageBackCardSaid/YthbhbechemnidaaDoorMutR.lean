/- Contracts of the reference's Rest, Put and All, and of mut.All: the bytes of mutations. Contract of mut.Copies. -/
import Derived.Test.YthbhbechemnidaaDoorMutP
import Derived.Test.YthbhbechemnidaaDoorMutM
import Derived.Test.YthbhbechemnidaaDoorVerB
import Derived.Test.YthbhbechemnidaaDoorWireC
namespace Go.Proofs.YthbhbechemnidaaDoor
open Go.RowKit Go.Sort

/-- A struct's block, made after w, stands; what was there ahead of w stands. -/
structure Hold (w : World) (g : Nat) (t : TypeId) (cs : Array Value) (wr : World) : Prop where
  blk : Blk wr g t cs
  below : Below w.heap.size w wr
  le : w.heap.size ≤ g
section
variable {w wr w' : World} {g : Nat} {t : TypeId} {cs : Array Value} {v v' : Value} {l l' : List UInt8}
theorem Hold.start (w : World) (cs : Array Value) (t : TypeId) : Hold w w.heap.size t cs (w.alloc (.cells cs t)) := ⟨Blk.new _ _ _, (Below.refl _ _).alloc (Nat.le_refl _) _, Nat.le_refl _⟩
theorem Hold.drew (h : Hold w g t cs wr) : Hold w g t cs wr.drew := ⟨h.blk.drew, below_drewN h.below 1, h.le⟩
theorem Hold.below' (h : Hold w g t cs wr) (b : Below wr.heap.size wr w') : Hold w g t cs w' := ⟨h.blk.below b h.blk.lt, h.below.trans (b.mono h.below.size), h.le⟩
theorem Hold.succ (h : Hold w g t cs wr) : g + 1 ≤ wr.heap.size := h.blk.lt
theorem Hold.ne (O : Own wr (g + 1) v l) : some g ≠ v.ownBlock := fun e => by have := (O.lt g e.symm).1; omega
theorem Hold.grown (h : Hold w g t cs wr) (O : Own wr (g + 1) v l) (G : wr.grownBy w' v.ownBlock) : Hold w g t cs w' :=
  ⟨h.blk.grown G (Hold.ne O), Below.grown h.below G h.below.size (fun q hq => by have := (O.lt q hq).1; have := h.le; omega), h.le⟩
theorem Hold.stand (_ : Hold w g t cs wr) (O : Own wr (g + 1) v l) (G : wr.grownBy w' v.ownBlock) : Stand (· = g) wr w' :=
  Stand.of_grown G fun k hk hs => by subst hs; exact Hold.ne O hk.symm
end

theorem ref03_TextB (s : ByteArray) (w : World) (hs : s.size ≤ 140737488355000) : Calls Tryd.prog 83 #[.string s] w (Fresh w (wtext (bs s))) := ref03_Text s w hs

theorem ref07_StampS (s : Int × Int × Int) (h1 : s.1 ≤ 9223372036854775807) (h2 : s.2.1 ≤ 9223372036854775807) (h3 : s.2.2 ≤ 9223372036854775807) (w : World) : Calls Tryd.prog 87 #[.agg #[.int .i64 s.1, .int .i64 s.2.1, .int .i64 s.2.2]] w (Fresh w (sput s)) := ref07_Stamp s.1 s.2.1 s.2.2 h1 h2 h3 w

def RfRel (w : World) (m : Mut) (cs : Array Value) (L : List UInt8) (n : Nat) (v3 v4 : Value) (wr : World) : Prop :=
  ∃ k : Nat, v4 = .int .i64 k ∧ k ≤ n ∧ Own wr (w.heap.size + 1) v3 (L ++ (m.ov.take k).flatMap sput) ∧ Hold w w.heap.size 35 cs wr

set_option maxRecDepth 100000 in
set_option maxHeartbeats 4000000 in
theorem ref07_Rest (m : Mut) (A : Option Addr) (n c : Nat) (w : World) (hr : Reads w w.heap.size 3 A n (m.ov.flatMap sc)) (hi : MutI m) :
    Calls Tryd.prog 39 #[.agg (mutC m (.slice A n c))] w (Fresh w (mrest m)) := by
  have hll := stamps_n hr
  have HX := Lib.hid (show mrest m = (((((((wputI m.tab ++ wputI m.kind) ++ wtext (bs m.en)) ++ wtext (bs m.val)) ++ wputI m.exp) ++ sput m.at_) ++ wputI (n : Int)) ++ m.ov.flatMap sput) by rw [← hll]; simp [mrest, mhead])
  rw [HX.out]
  clear HX
  have H := Hold.start w (mutC m (.slice A n c)) 35
  have HR := Lib.hid hr
  have HLL := Lib.hid hll
  have HI := Lib.hid hi
  have l0 := wputI_len m.tab hi.tab
  have l1 := wputI_len m.kind hi.kind
  have l2 := wtext_len m.en hi.en
  have l3 := wtext_len m.val hi.val
  have l4 := wputI_len m.exp hi.exp
  have l5 := sput_len m.at_ hi.at_.1 hi.at_.2.1 hi.at_.2.2
  have hn6 : n ≤ 1000000 := by rw [← hll]; exact hi.len
  have l6 := wputI_len (n : Int) (by omega)
  clear hr hll hi
  go_enter Tryd.func39, Tryd.ntmps39
  go_upto_region 1 with fail
  generalize w.alloc (.cells (mutC m (.slice A n c)) 35) = W at *
  replace H := H.drew
  have q0 : ∀ p : Kept (· = w.heap.size) W.drew, p.v.cell? ⟨w.heap.size, 0, none⟩ = some (.int .i64 m.tab) := fun p => p.h.cell rfl (H.blk.cell 0)
  have q1 : ∀ p : Kept (· = w.heap.size) W.drew, p.v.cell? ⟨w.heap.size, 1, none⟩ = some (.int .i64 m.kind) := fun p => p.h.cell rfl (H.blk.cell 1)
  refine wp_region_mixDk (M := []) (· = w.heap.size) [0, 1, 3, 4, 2, 5, 6, 7] (by kernel_rfl) (by kernel_rfl) ?_
  iterate 4 (refine mix_calmDk rfl rfl ?_; go_big_quiet_step (fail); refine wpQuiet_nil ?_)
  refine mix_loudDk rfl (by kernel_rfl) rfl ?_
  intro K1 hK1
  have HK := Lib.hid hK1
  clear hK1 q0 q1
  go_wp2_with fail
  refine (ref03_Put m.tab W.drew HI.out.tab).mono ?_
  rintro x w1 ⟨v1, rfl, ox, bx⟩
  have HS9 := Lib.hid (Stand.of_below (S := (· = w.heap.size)) bx)
  have O1 := Lib.hid (ox.base_le (base' := w.heap.size + 1) H.succ)
  replace H := H.below' bx
  clear ox bx
  go_wp2_with fail
  refine HK.out _ _ (HS9.out) ?_
  clear HK
  clear HS9
  refine mix_loudDk rfl (by kernel_rfl) rfl ?_
  intro K1 hK1
  have HK := Lib.hid hK1
  clear hK1 
  go_wp2_with fail
  refine (ref03_Put m.kind w1 HI.out.kind).mono ?_
  rintro x w2 ⟨v2, rfl, ox, bx⟩
  have HS9 := Lib.hid (Stand.of_below (S := (· = w.heap.size)) bx)
  replace O1 := Lib.hid (O1.out.below bx)
  have O2 := Lib.hid (ox.base_le (base' := w.heap.size + 1) H.succ)
  replace H := H.below' bx
  clear ox bx
  go_wp2_with fail
  refine HK.out _ _ (HS9.out) ?_
  clear HK
  clear HS9
  obtain ⟨A9, c9, rfl, _, RX⟩ := O2.out.reads
  have RX := Lib.hid RX
  have hs9 := H.succ
  refine mix_loudDk rfl (by kernel_rfl) rfl ?_
  intro K1 hK1
  have HK := Lib.hid hK1
  clear hK1 
  go_wp2_with (at_builtin; go_must (refine append_bytes w2 rfl _ _ rfl (w.heap.size + 1) v1 (wputI m.tab) rfl O1.out A9 _ c9 (wputI m.kind) rfl RX.out (by (repeat rw [List.length_append]); omega) hs9 ?_); intro v3 w3 OX GX _)
  have HS9 := Lib.hid (H.stand O1.out GX)
  replace H := H.grown O1.out GX
  have O3 := Lib.hid OX
  clear OX GX RX O1 O2
  refine HK.out _ _ (HS9.out) ?_
  clear HK
  clear HS9
  iterate 1 (refine mix_calmDk rfl rfl ?_; go_big_quiet_step (fail); refine wpQuiet_nil ?_)
  refine mix_endDk ?_
  go_upto_region 2 with fail
  replace H := H.drew
  have q3 : ∀ p : Kept (· = w.heap.size) w3.drew, p.v.cell? ⟨w.heap.size, 3, none⟩ = some (.string m.en) := fun p => p.h.cell rfl (H.blk.cell 3)
  have q4 : ∀ p : Kept (· = w.heap.size) w3.drew, p.v.cell? ⟨w.heap.size, 4, none⟩ = some (.string m.val) := fun p => p.h.cell rfl (H.blk.cell 4)
  replace O3 := Lib.hid (O3.out.drewN 1)
  refine wp_region_mixDk (M := []) (· = w.heap.size) [0, 1, 2, 5, 6, 3, 4, 7, 8, 9] (by kernel_rfl) (by kernel_rfl) ?_
  iterate 5 (refine mix_calmDk rfl rfl ?_; go_big_quiet_step (fail); refine wpQuiet_nil ?_)
  refine mix_loudDk rfl (by kernel_rfl) rfl ?_
  intro K1 hK1
  have HK := Lib.hid hK1
  clear hK1 q3 q4
  go_wp2_with fail
  refine (ref03_TextB m.en w3.drew (by have := HI.out.en; omega)).mono ?_
  rintro x w4 ⟨v4, rfl, ox, bx⟩
  have HS9 := Lib.hid (Stand.of_below (S := (· = w.heap.size)) bx)
  replace O3 := Lib.hid (O3.out.below bx)
  have O4 := Lib.hid (ox.base_le (base' := w.heap.size + 1) H.succ)
  replace H := H.below' bx
  clear ox bx
  go_wp2_with fail
  refine HK.out _ _ (HS9.out) ?_
  clear HK
  clear HS9
  obtain ⟨A9, c9, rfl, _, RX⟩ := O4.out.reads
  have RX := Lib.hid RX
  have hs9 := H.succ
  refine mix_loudDk rfl (by kernel_rfl) rfl ?_
  intro K1 hK1
  have HK := Lib.hid hK1
  clear hK1 
  go_wp2_with (at_builtin; go_must (refine append_bytes w4 rfl _ _ rfl (w.heap.size + 1) v3 (wputI m.tab ++ wputI m.kind) rfl O3.out A9 _ c9 (wtext (bs m.en)) rfl RX.out (by (repeat rw [List.length_append]); omega) hs9 ?_); intro v5 w5 OX GX _)
  have HS9 := Lib.hid (H.stand O3.out GX)
  replace H := H.grown O3.out GX
  have O5 := Lib.hid OX
  clear OX GX RX O3 O4
  refine HK.out _ _ (HS9.out) ?_
  clear HK
  clear HS9
  refine mix_loudDk rfl (by kernel_rfl) rfl ?_
  intro K1 hK1
  have HK := Lib.hid hK1
  clear hK1 
  go_wp2_with fail
  refine (ref03_TextB m.val w5 (by have := HI.out.val; omega)).mono ?_
  rintro x w6 ⟨v6, rfl, ox, bx⟩
  have HS9 := Lib.hid (Stand.of_below (S := (· = w.heap.size)) bx)
  replace O5 := Lib.hid (O5.out.below bx)
  have O6 := Lib.hid (ox.base_le (base' := w.heap.size + 1) H.succ)
  replace H := H.below' bx
  clear ox bx
  go_wp2_with fail
  refine HK.out _ _ (HS9.out) ?_
  clear HK
  clear HS9
  obtain ⟨A9, c9, rfl, _, RX⟩ := O6.out.reads
  have RX := Lib.hid RX
  have hs9 := H.succ
  refine mix_loudDk rfl (by kernel_rfl) rfl ?_
  intro K1 hK1
  have HK := Lib.hid hK1
  clear hK1 
  go_wp2_with (at_builtin; go_must (refine append_bytes w6 rfl _ _ rfl (w.heap.size + 1) v5 ((wputI m.tab ++ wputI m.kind) ++ wtext (bs m.en)) rfl O5.out A9 _ c9 (wtext (bs m.val)) rfl RX.out (by (repeat rw [List.length_append]); omega) hs9 ?_); intro v7 w7 OX GX _)
  have HS9 := Lib.hid (H.stand O5.out GX)
  replace H := H.grown O5.out GX
  have O7 := Lib.hid OX
  clear OX GX RX O5 O6
  refine HK.out _ _ (HS9.out) ?_
  clear HK
  clear HS9
  iterate 1 (refine mix_calmDk rfl rfl ?_; go_big_quiet_step (fail); refine wpQuiet_nil ?_)
  refine mix_endDk ?_
  go_upto_region 3 with fail
  replace H := H.drew
  have q5 : ∀ p : Kept (· = w.heap.size) w7.drew, p.v.cell? ⟨w.heap.size, 5, none⟩ = some (.int .i64 m.exp) := fun p => p.h.cell rfl (H.blk.cell 5)
  have q6 : ∀ p : Kept (· = w.heap.size) w7.drew, p.v.cell? ⟨w.heap.size, 6, none⟩ = some (.int .i64 m.at_.1) := fun p => p.h.cell rfl (H.blk.cell 6)
  have q7 : ∀ p : Kept (· = w.heap.size) w7.drew, p.v.cell? ⟨w.heap.size, 7, none⟩ = some (.int .i64 m.at_.2.1) := fun p => p.h.cell rfl (H.blk.cell 7)
  have q8 : ∀ p : Kept (· = w.heap.size) w7.drew, p.v.cell? ⟨w.heap.size, 8, none⟩ = some (.int .i64 m.at_.2.2) := fun p => p.h.cell rfl (H.blk.cell 8)
  replace O7 := Lib.hid (O7.out.drewN 1)
  refine wp_region_mixDk (M := []) (· = w.heap.size) [0, 1, 2, 5, 6, 3, 4, 7, 8, 9] (by kernel_rfl) (by kernel_rfl) ?_
  iterate 5 (refine mix_calmDk rfl rfl ?_; go_big_quiet_step (fail); refine wpQuiet_nil ?_)
  refine mix_loudDk rfl (by kernel_rfl) rfl ?_
  intro K1 hK1
  have HK := Lib.hid hK1
  clear hK1 q5 q6 q7 q8
  go_wp2_with fail
  refine (ref03_Put m.exp w7.drew HI.out.exp).mono ?_
  rintro x w8 ⟨v8, rfl, ox, bx⟩
  have HS9 := Lib.hid (Stand.of_below (S := (· = w.heap.size)) bx)
  replace O7 := Lib.hid (O7.out.below bx)
  have O8 := Lib.hid (ox.base_le (base' := w.heap.size + 1) H.succ)
  replace H := H.below' bx
  clear ox bx
  go_wp2_with fail
  refine HK.out _ _ (HS9.out) ?_
  clear HK
  clear HS9
  obtain ⟨A9, c9, rfl, _, RX⟩ := O8.out.reads
  have RX := Lib.hid RX
  have hs9 := H.succ
  refine mix_loudDk rfl (by kernel_rfl) rfl ?_
  intro K1 hK1
  have HK := Lib.hid hK1
  clear hK1 
  go_wp2_with (at_builtin; go_must (refine append_bytes w8 rfl _ _ rfl (w.heap.size + 1) v7 (((wputI m.tab ++ wputI m.kind) ++ wtext (bs m.en)) ++ wtext (bs m.val)) rfl O7.out A9 _ c9 (wputI m.exp) rfl RX.out (by (repeat rw [List.length_append]); omega) hs9 ?_); intro v9 w9 OX GX _)
  have HS9 := Lib.hid (H.stand O7.out GX)
  replace H := H.grown O7.out GX
  have O9 := Lib.hid OX
  clear OX GX RX O7 O8
  refine HK.out _ _ (HS9.out) ?_
  clear HK
  clear HS9
  refine mix_loudDk rfl (by kernel_rfl) rfl ?_
  intro K1 hK1
  have HK := Lib.hid hK1
  clear hK1 
  go_wp2_with fail
  refine (ref07_StampS m.at_ HI.out.at_.1 HI.out.at_.2.1 HI.out.at_.2.2 w9).mono ?_
  rintro x w10 ⟨v10, rfl, ox, bx⟩
  have HS9 := Lib.hid (Stand.of_below (S := (· = w.heap.size)) bx)
  replace O9 := Lib.hid (O9.out.below bx)
  have O10 := Lib.hid (ox.base_le (base' := w.heap.size + 1) H.succ)
  replace H := H.below' bx
  clear ox bx
  go_wp2_with fail
  refine HK.out _ _ (HS9.out) ?_
  clear HK
  clear HS9
  obtain ⟨A9, c9, rfl, _, RX⟩ := O10.out.reads
  have RX := Lib.hid RX
  have hs9 := H.succ
  refine mix_loudDk rfl (by kernel_rfl) rfl ?_
  intro K1 hK1
  have HK := Lib.hid hK1
  clear hK1 
  go_wp2_with (at_builtin; go_must (refine append_bytes w10 rfl _ _ rfl (w.heap.size + 1) v9 ((((wputI m.tab ++ wputI m.kind) ++ wtext (bs m.en)) ++ wtext (bs m.val)) ++ wputI m.exp) rfl O9.out A9 _ c9 (sput m.at_) rfl RX.out (by (repeat rw [List.length_append]); omega) hs9 ?_); intro v11 w11 OX GX _)
  have HS9 := Lib.hid (H.stand O9.out GX)
  replace H := H.grown O9.out GX
  have O11 := Lib.hid OX
  clear OX GX RX O9 O10
  refine HK.out _ _ (HS9.out) ?_
  clear HK
  clear HS9
  iterate 1 (refine mix_calmDk rfl rfl ?_; go_big_quiet_step (fail); refine wpQuiet_nil ?_)
  refine mix_endDk ?_
  have q9 : w11.cell? ⟨w.heap.size, 9, none⟩ = some (.slice A n c) := H.blk.cell 9
  go_wp2_with fail
  refine (ref03_Put (n : Int) w11 (by omega)).mono ?_
  rintro x w12 ⟨v12, rfl, o9, b9⟩
  have O12 := o9.base_le (base' := w.heap.size + 1) H.succ
  replace O11 := O11.out.below b9
  replace H := H.below' b9
  clear o9 b9 q9
  obtain ⟨A9, c9, rfl, _, R9⟩ := O12.reads
  have hs9 := H.succ
  have q9 : w12.cell? ⟨w.heap.size, 9, none⟩ = some (.slice A n c) := H.blk.cell 9
  go_wp2_with (at_builtin; go_must (refine append_bytes w12 rfl _ _ rfl (w.heap.size + 1) v11 (((((wputI m.tab ++ wputI m.kind) ++ wtext (bs m.en)) ++ wtext (bs m.val)) ++ wputI m.exp) ++ sput m.at_) rfl O11 A9 _ c9 (wputI (n : Int)) rfl R9 (by (repeat rw [List.length_append]); omega) hs9 ?_); intro v13 w13 O13 G13 _)
  replace H := H.grown O11 G13
  clear O11 O12 R9 G13 q9
  obtain ⟨L, hL⟩ : ∃ L, (((((wputI m.tab ++ wputI m.kind) ++ wtext (bs m.en)) ++ wtext (bs m.val)) ++ wputI m.exp) ++ sput m.at_) ++ wputI (n : Int) = L := ⟨_, rfl⟩
  have hLl : L.length ≤ 200000000000 := by rw [← hL]; (repeat rw [List.length_append]); omega
  rw [hL] at O13
  have HLQ := Lib.hid hL
  clear hL l0 l1 l2 l3 l4 l5 l6
  go_loopw [3, 4] (fun v3 v4 wr => RfRel w m (mutC m (.slice A n c)) L n v3 v4 wr) (fun _ v4 _ => n - (RowKit.intOf v4).toNat)
  case atStart => exact ⟨0, rfl, Nat.zero_le _, by simpa using O13, H⟩
  case round =>
    clear O13 H
    obtain ⟨k, rfl, hk, O, H⟩ := hrel
    have q9 : wr.cell? ⟨w.heap.size, 9, none⟩ = some (.slice A n c) := H.blk.cell 9
    have hs := H.succ
    by_cases hkn : k < n
    · have hkT : k < m.ov.length := by have := HLL.out; omega
      obtain ⟨b, off, hA, hb2, t0, t1, t2⟩ := stamp_at (HR.out.below H.below) hkT
      subst hA
      have hid := HI.out.ov m.ov[k] (List.getElem_mem hkT)
      have hsl := sputs_len (m.ov.take k) (fun s hs => HI.out.ov s (List.mem_of_mem_take hs))
      rw [List.length_take] at hsl
      have HF := Lib.hid (take_sput m.ov k hkT)
      have hsp := sput_len m.ov[k] hid.1 hid.2.1 hid.2.2
      obtain ⟨s, hid2⟩ : ∃ s, m.ov[k] = s := ⟨_, rfl⟩
      rw [hid2] at t0 t1 t2 hid HF hsp
      clear hid2
      have HR9 := Lib.hid HR.out
      have hll : (L ++ (m.ov.take k).flatMap sput).length ≤ 140737488300000 := by rw [List.length_append]; omega
      have HLLn := Lib.hid hll
      clear hll hsl
      go_wp2_with fail
      refine (ref07_StampS s hid.1 hid.2.1 hid.2.2 wr).mono ?_
      rintro x w8 ⟨v8, rfl, o9, b9⟩
      have O8 := o9.base_le (base' := w.heap.size + 1) hs
      replace O := O.below b9
      replace H := H.below' b9
      clear o9 b9 q9 t0 t1 t2
      obtain ⟨A9, c9, rfl, _, R9⟩ := O8.reads
      replace hs := H.succ
      go_wp2_with (at_builtin; go_must (refine append_bytes w8 rfl _ _ rfl (w.heap.size + 1) _ (L ++ (m.ov.take k).flatMap sput) rfl O A9 _ c9 (sput s) rfl R9 (by have := HLLn.out; omega) hs ?_); intro v13 w13 O13 G13 _)
      replace H := H.grown O G13
      rw [List.append_assoc, ← HF.out] at O13
      clear O O8 R9 G13 HF
      go_roundw
      case rel => exact ⟨k + 1, by go_num, by omega, O13, H⟩
      case measure => simp [RowKit.intOf]; omega
    · have hkn : k = n := by omega
      subst hkn
      rw [List.take_of_length_le (by rw [HLL.out]; exact Nat.le_refl _)] at O
      go_wp2_with fail
      go_ret
      refine ⟨_, rfl, ?_, H.below⟩
      rw [HLQ.out]
      exact O.base_le (Nat.le_succ _)

set_option maxRecDepth 100000 in
set_option maxHeartbeats 2000000 in
theorem ref07_Put (m : Mut) (A : Option Addr) (n c : Nat) (w : World) (hr : Reads w w.heap.size 3 A n (m.ov.flatMap sc)) (hi : MutI m) :
    Calls Tryd.prog 37 #[.agg (mutC m (.slice A n c))] w (Fresh w (mput m)) := by
  have H := Hold.start w (mutC m (.slice A n c)) 35
  have HR := Lib.hid hr
  have HI := Lib.hid hi
  have l0 := wtext_len m.key hi.key
  have l1 := mrest_len m hi
  clear hr hi
  go_enter Tryd.func37, Tryd.ntmps37
  go_upto_region 1 with fail
  generalize w.alloc (.cells (mutC m (.slice A n c)) 35) = W at *
  replace H := H.drew
  have q0 : ∀ p : Kept (· = w.heap.size) W.drew, p.v.cell? ⟨w.heap.size, 0, none⟩ = some (.int .i64 m.tab) := fun p => p.h.cell rfl (H.blk.cell 0)
  have q1 : ∀ p : Kept (· = w.heap.size) W.drew, p.v.cell? ⟨w.heap.size, 1, none⟩ = some (.int .i64 m.kind) := fun p => p.h.cell rfl (H.blk.cell 1)
  have q2 : ∀ p : Kept (· = w.heap.size) W.drew, p.v.cell? ⟨w.heap.size, 2, none⟩ = some (.string m.key) := fun p => p.h.cell rfl (H.blk.cell 2)
  have q3 : ∀ p : Kept (· = w.heap.size) W.drew, p.v.cell? ⟨w.heap.size, 3, none⟩ = some (.string m.en) := fun p => p.h.cell rfl (H.blk.cell 3)
  have q4 : ∀ p : Kept (· = w.heap.size) W.drew, p.v.cell? ⟨w.heap.size, 4, none⟩ = some (.string m.val) := fun p => p.h.cell rfl (H.blk.cell 4)
  have q5 : ∀ p : Kept (· = w.heap.size) W.drew, p.v.cell? ⟨w.heap.size, 5, none⟩ = some (.int .i64 m.exp) := fun p => p.h.cell rfl (H.blk.cell 5)
  have q6 : ∀ p : Kept (· = w.heap.size) W.drew, p.v.cell? ⟨w.heap.size, 6, none⟩ = some (.int .i64 m.at_.1) := fun p => p.h.cell rfl (H.blk.cell 6)
  have q7 : ∀ p : Kept (· = w.heap.size) W.drew, p.v.cell? ⟨w.heap.size, 7, none⟩ = some (.int .i64 m.at_.2.1) := fun p => p.h.cell rfl (H.blk.cell 7)
  have q8 : ∀ p : Kept (· = w.heap.size) W.drew, p.v.cell? ⟨w.heap.size, 8, none⟩ = some (.int .i64 m.at_.2.2) := fun p => p.h.cell rfl (H.blk.cell 8)
  have q9 : ∀ p : Kept (· = w.heap.size) W.drew, p.v.cell? ⟨w.heap.size, 9, none⟩ = some (.slice A n c) := fun p => p.h.cell rfl (H.blk.cell 9)
  refine wp_region_mixDk (M := []) (· = w.heap.size) [0, 1, 3, 2, 4, 5, 6] (by kernel_rfl) (by kernel_rfl) ?_
  iterate 3 (refine mix_calmDk rfl rfl ?_; go_big_quiet_step (fail); refine wpQuiet_nil ?_)
  refine mix_loudDk rfl (by kernel_rfl) rfl ?_
  intro K1 hK1
  have HK := Lib.hid hK1
  clear hK1 q0 q1 q2 q3 q4 q5 q6 q7 q8 q9
  go_wp2_with fail
  refine (ref03_TextB m.key W.drew (by have := HI.out.key; omega)).mono ?_
  rintro x w1 ⟨v1, rfl, ox, bx⟩
  have HS9 := Lib.hid (Stand.of_below (S := (· = w.heap.size)) bx)
  have O1 := Lib.hid (ox.base_le (base' := w.heap.size + 1) H.succ)
  replace H := H.below' bx
  clear ox bx
  go_wp2_with fail
  refine HK.out _ _ (HS9.out) ?_
  clear HK
  clear HS9
  have CR := Lib.hid (ref07_Rest m A n c w1 ((HR.out.below H.below).more H.below.size) HI.out)
  refine mix_loudDk rfl (by kernel_rfl) rfl ?_
  intro K1 hK1
  have HK := Lib.hid hK1
  clear hK1 
  go_wp2_with fail
  refine (CR.out).mono ?_
  rintro x w2 ⟨v2, rfl, ox, bx⟩
  have HS9 := Lib.hid (Stand.of_below (S := (· = w.heap.size)) bx)
  replace O1 := Lib.hid (O1.out.below bx)
  have O2 := Lib.hid (ox.base_le (base' := w.heap.size + 1) H.succ)
  replace H := H.below' bx
  clear ox bx
  go_wp2_with fail
  refine HK.out _ _ (HS9.out) ?_
  clear HK
  clear HS9
  obtain ⟨A9, c9, rfl, _, RX⟩ := O2.out.reads
  have RX := Lib.hid RX
  have hs9 := H.succ
  refine mix_loudDk rfl (by kernel_rfl) rfl ?_
  intro K1 hK1
  have HK := Lib.hid hK1
  clear hK1 
  go_wp2_with (at_builtin; go_must (refine append_bytes w2 rfl _ _ rfl (w.heap.size + 1) v1 (wtext (bs m.key)) rfl O1.out A9 _ c9 (mrest m) rfl RX.out (by (repeat rw [List.length_append]); omega) hs9 ?_); intro v3 w3 OX GX _)
  have HS9 := Lib.hid (H.stand O1.out GX)
  replace H := H.grown O1.out GX
  have O3 := Lib.hid OX
  clear OX GX RX O1 O2
  refine HK.out _ _ (HS9.out) ?_
  clear HK
  clear HS9
  iterate 1 (refine mix_calmDk rfl rfl ?_; go_big_quiet_step (fail); refine wpQuiet_nil ?_)
  refine mix_endDk ?_
  go_wp2_with fail
  go_ret
  exact ⟨_, rfl, O3.out.base_le (Nat.le_succ _), H.below⟩

theorem mputs_len (M : List Mut) (h : ∀ m ∈ M, MutI m) : (M.flatMap mput).length ≤ 40000000 * M.length := by
  induction M with
  | nil => simp
  | cons s t ih =>
    have := mput_len s (h s (List.mem_cons_self ..))
    have := ih fun x hx => h x (List.mem_cons_of_mem _ hx)
    simp only [List.flatMap_cons, List.length_append, List.length_cons]
    omega
theorem take_mput (M : List Mut) (k : Nat) (hk : k < M.length) : (M.take (k + 1)).flatMap mput = (M.take k).flatMap mput ++ mput M[k] := by
  rw [List.take_succ_eq_append_getElem hk, List.flatMap_append]
  simp
/-- A mutation of a row that reads, at its place. -/
theorem RdM.at_ {w : World} {A : Option Addr} {n : Nat} {M : List Mut} (h : RdM w A n M) {k : Nat} (hk : k < M.length) : ∃ (x : MutS) (b off : Nat), x.m = M[k] ∧ A = some ⟨b, off, none⟩ ∧ b < w.heap.size ∧ (∀ i u, i < 10 → (mutL x)[i]? = some u → w.cell? ⟨b, off + k * 10 + i, none⟩ = some u) ∧ Reads w w.heap.size 3 x.A x.n (x.m.ov.flatMap sc) ∧ x.n ≤ 1000000000 ∧ (x.A = none → x.c = 0) := by
  obtain ⟨L, hL, h1, h2, h3⟩ := h
  have hkL : k < L.length := by rw [← hL, List.length_map] at hk; exact hk
  obtain ⟨b, off, hA, hb, hc⟩ := mut_at h1 hkL
  have hz := h3 _ (List.getElem_mem hkL)
  refine ⟨L[k], b, off, ?_, hA, hb, hc, (h2 _ (List.getElem_mem hkL)).1, hz.1, hz.2⟩
  simp only [← hL, List.getElem_map]

set_option maxRecDepth 100000 in
set_option maxHeartbeats 4000000 in
theorem ref07_All (A : Option Addr) (n c : Nat) (M : List Mut) (w : World) (hr : RdM w A n M) (hi : ∀ m ∈ M, MutI m) (hn : n ≤ 1000) :
    Calls Tryd.prog 41 #[.slice A n c] w (Fresh w (mall M)) := by
  have hll := hr.n_eq
  have HR := Lib.hid hr
  have HLL := Lib.hid hll
  have HI := Lib.hid hi
  have hl0 := wputI_len (n : Int) (by omega)
  clear hr hll hi
  go_enter Tryd.func41, Tryd.ntmps41
  go_wp2_with fail
  refine (ref03_Put (n : Int) w (by omega)).mono ?_
  rintro x w1 ⟨v1, rfl, O1, b1⟩
  have hB := b1
  clear b1
  go_wp2_with fail
  go_loopw [3, 4] (fun v3 v4 wr => ∃ k : Nat, v4 = .int .i64 k ∧ k ≤ n ∧ Own wr w.heap.size v3 (wputI (n : Int) ++ (M.take k).flatMap mput) ∧ Below w.heap.size w wr) (fun _ v4 _ => n - (RowKit.intOf v4).toNat)
  case atStart => exact ⟨0, rfl, Nat.zero_le _, by simpa using O1, hB⟩
  case round =>
    clear O1 hB
    obtain ⟨k, rfl, hk, O, hB⟩ := hrel
    by_cases hkn : k < n
    · have hkT : k < M.length := by have := HLL.out; omega
      obtain ⟨x, b, off, hx, hA, hb, hc, hrx, hz, -⟩ := (HR.out.below hB).at_ hkT
      subst hA
      have hid := HI.out M[k] (List.getElem_mem hkT)
      have hsl := mputs_len (M.take k) (fun s hs => HI.out s (List.mem_of_mem_take hs))
      rw [List.length_take] at hsl
      have HF := Lib.hid (take_mput M k hkT)
      have hsp := mput_len M[k] hid
      rw [← hx] at hid HF hsp
      have hll : (wputI (n : Int) ++ (M.take k).flatMap mput).length + (mput x.m).length ≤ 140737488300000 := by rw [List.length_append]; omega
      have HLLn := Lib.hid hll
      have HRX := Lib.hid hrx
      have HID := Lib.hid hid
      clear hll hsl hsp hx hrx hid hz
      have c0 : wr.cell? ⟨b, off + k * 10, none⟩ = some (.int .i64 x.m.tab) := hc 0 _ (by decide) rfl
      have c1 : wr.cell? ⟨b, off + k * 10 + 1, none⟩ = some (.int .i64 x.m.kind) := hc 1 _ (by decide) rfl
      have c2 : wr.cell? ⟨b, off + k * 10 + 2, none⟩ = some (.string x.m.key) := hc 2 _ (by decide) rfl
      have c3 : wr.cell? ⟨b, off + k * 10 + 3, none⟩ = some (.string x.m.en) := hc 3 _ (by decide) rfl
      have c4 : wr.cell? ⟨b, off + k * 10 + 4, none⟩ = some (.string x.m.val) := hc 4 _ (by decide) rfl
      have c5 : wr.cell? ⟨b, off + k * 10 + 5, none⟩ = some (.int .i64 x.m.exp) := hc 5 _ (by decide) rfl
      have c6 : wr.cell? ⟨b, off + k * 10 + 6, none⟩ = some (.int .i64 x.m.at_.1) := hc 6 _ (by decide) rfl
      have c7 : wr.cell? ⟨b, off + k * 10 + 7, none⟩ = some (.int .i64 x.m.at_.2.1) := hc 7 _ (by decide) rfl
      have c8 : wr.cell? ⟨b, off + k * 10 + 8, none⟩ = some (.int .i64 x.m.at_.2.2) := hc 8 _ (by decide) rfl
      have c9 : wr.cell? ⟨b, off + k * 10 + 9, none⟩ = some (.slice x.A x.n x.c) := hc 9 _ (by decide) rfl
      clear hc
      go_wp2_with fail
      clear c0 c1 c2 c3 c4 c5 c6 c7 c8 c9
      refine (ref07_Put x.m x.A x.n x.c wr HRX.out HID.out).mono ?_
      rintro y w8 ⟨v8, rfl, o9, b9⟩
      have O8 := o9.base_le (base' := w.heap.size) hB.size
      replace O := O.below b9
      replace hB := hB.trans (b9.mono hB.size)
      clear o9 b9
      obtain ⟨A9, c9, rfl, _, R9⟩ := O8.reads
      have hs := hB.size
      go_wp2_with (at_builtin; go_must (refine append_bytes w8 rfl _ _ rfl w.heap.size _ (wputI (n : Int) ++ (M.take k).flatMap mput) rfl O A9 _ c9 (mput x.m) rfl R9 (by have := HLLn.out; omega) hs ?_); intro v13 w13 O13 G13 _)
      replace hB := Below.grown hB G13 hB.size (fun q hq => (O.lt q hq).1)
      rw [List.append_assoc, ← HF.out] at O13
      clear O O8 R9 G13 HF
      go_roundw
      case rel => exact ⟨k + 1, by go_num, by omega, O13, hB⟩
      case measure => simp [RowKit.intOf]; omega
    · have hkn : k = n := by omega
      subst hkn
      rw [List.take_of_length_le (by rw [HLL.out]; exact Nat.le_refl _)] at O
      go_wp2_with fail
      go_ret
      refine ⟨_, rfl, ?_, hB⟩
      unfold mall
      rw [HLL.out]
      exact O

set_option maxRecDepth 100000 in
set_option maxHeartbeats 4000000 in
theorem mut_All (w0 w : World) (base : Nat) (v : Value) (l : List UInt8) (A : Option Addr) (n c : Nat) (M : List Mut) (hown : Own w base v l) (hbase : base ≤ w.heap.size) (h0 : w0.heap.size ≤ base) (hb0 : Below w0.heap.size w0 w) (hr : RdM w0 A n M) (hi : ∀ m ∈ M, MutI m) (hn : n ≤ 1000) (hlen : l.length ≤ 1000000000) :
    Calls Tryd.prog 40 #[v, .slice A n c] w (Puts w base v (l ++ mall M)) := by
  have hll := hr.n_eq
  have HR := Lib.hid hr
  have HLL := Lib.hid hll
  have HI := Lib.hid hi
  have H0 := Lib.hid hb0
  have hl0 := wputI_len (n : Int) (by omega)
  have HV := Lib.hid (fun k (hk : v.ownBlock = some k) => (hown.lt k hk).1)
  have HO := Lib.hid hown
  clear hr hll hi hown hb0
  go_enter Tryd.func40, Tryd.ntmps40
  go_wp2_with fail
  refine (wire_Put w base v l (n : Int) HO.out hbase (by omega) (by omega)).mono ?_
  rintro x w1 ⟨v1, rfl, O1, G1, L1⟩
  clear HO
  go_wp2_with fail
  go_loopw [0, 6, 13] (fun u0 _ v13 wr => ∃ k : Nat, v13 = .int .i64 k ∧ k ≤ n ∧ Own wr base u0 ((l ++ wputI (n : Int)) ++ (M.take k).flatMap mput) ∧ w.grownBy wr v.ownBlock ∧ Lies w v u0) (fun _ _ v13 _ => n - (RowKit.intOf v13).toNat)
  case atStart => exact ⟨0, rfl, Nat.zero_le _, by simpa using O1, G1, L1⟩
  case round =>
    clear O1 G1 L1
    obtain ⟨k, rfl, hk, O, G, L⟩ := hrel
    have hBb : Below base w wr := ⟨G.os, G.tape, G.output, G.size, fun q hq => G.block q (Nat.lt_of_lt_of_le hq hbase) (fun e => by have := HV.out q e.symm; omega)⟩
    have hB0 : Below w0.heap.size w0 wr := H0.out.trans (hBb.mono h0)
    have hbw : base ≤ wr.heap.size := Nat.le_trans hbase G.size
    by_cases hkn : k < n
    · have hkT : k < M.length := by have := HLL.out; omega
      obtain ⟨x, b, off, hx, hA, hb, hc, hrx, hz, -⟩ := HR.out.at_ hkT
      subst hA
      have hid := HI.out M[k] (List.getElem_mem hkT)
      have hsl := mputs_len (M.take k) (fun s hs => HI.out s (List.mem_of_mem_take hs))
      rw [List.length_take] at hsl
      have HF := Lib.hid (take_mput M k hkT)
      rw [← hx] at hid HF
      have hll : ((l ++ wputI (n : Int)) ++ (M.take k).flatMap mput).length ≤ 90000000000 := by rw [List.length_append, List.length_append]; omega
      have HLLn := Lib.hid hll
      have HRX := Lib.hid (((hrx.below hB0).more h0).alloc hbw (.cells (mutC x.m (.slice x.A x.n x.c)) 35))
      have HID := Lib.hid hid
      clear hll hsl hx hrx hid hz
      have hc' : ∀ i u, i < 10 → (mutL x)[i]? = some u → wr.cell? ⟨b, off + k * 10 + i, none⟩ = some u := fun i u hi hu => (World.cell?_of_block (hB0.block b hb)).trans (hc i u hi hu)
      have c0 : wr.cell? ⟨b, off + k * 10, none⟩ = some (.int .i64 x.m.tab) := hc' 0 _ (by decide) rfl
      have c1 : wr.cell? ⟨b, off + k * 10 + 1, none⟩ = some (.int .i64 x.m.kind) := hc' 1 _ (by decide) rfl
      have c2 : wr.cell? ⟨b, off + k * 10 + 2, none⟩ = some (.string x.m.key) := hc' 2 _ (by decide) rfl
      have c3 : wr.cell? ⟨b, off + k * 10 + 3, none⟩ = some (.string x.m.en) := hc' 3 _ (by decide) rfl
      have c4 : wr.cell? ⟨b, off + k * 10 + 4, none⟩ = some (.string x.m.val) := hc' 4 _ (by decide) rfl
      have c5 : wr.cell? ⟨b, off + k * 10 + 5, none⟩ = some (.int .i64 x.m.exp) := hc' 5 _ (by decide) rfl
      have c6 : wr.cell? ⟨b, off + k * 10 + 6, none⟩ = some (.int .i64 x.m.at_.1) := hc' 6 _ (by decide) rfl
      have c7 : wr.cell? ⟨b, off + k * 10 + 7, none⟩ = some (.int .i64 x.m.at_.2.1) := hc' 7 _ (by decide) rfl
      have c8 : wr.cell? ⟨b, off + k * 10 + 8, none⟩ = some (.int .i64 x.m.at_.2.2) := hc' 8 _ (by decide) rfl
      have c9 : wr.cell? ⟨b, off + k * 10 + 9, none⟩ = some (.slice x.A x.n x.c) := hc' 9 _ (by decide) rfl
      clear hc hc'
      have BT := Blk.new wr 35 (mutC x.m (.slice x.A x.n x.c))
      have d0 : (wr.alloc (.cells (mutC x.m (.slice x.A x.n x.c)) 35)).cell? ⟨wr.heap.size, 0, none⟩ = some (.int .i64 x.m.tab) := BT.cell 0
      have d1 : (wr.alloc (.cells (mutC x.m (.slice x.A x.n x.c)) 35)).cell? ⟨wr.heap.size, 1, none⟩ = some (.int .i64 x.m.kind) := BT.cell 1
      have d2 : (wr.alloc (.cells (mutC x.m (.slice x.A x.n x.c)) 35)).cell? ⟨wr.heap.size, 2, none⟩ = some (.string x.m.key) := BT.cell 2
      have d3 : (wr.alloc (.cells (mutC x.m (.slice x.A x.n x.c)) 35)).cell? ⟨wr.heap.size, 3, none⟩ = some (.string x.m.en) := BT.cell 3
      have d4 : (wr.alloc (.cells (mutC x.m (.slice x.A x.n x.c)) 35)).cell? ⟨wr.heap.size, 4, none⟩ = some (.string x.m.val) := BT.cell 4
      have d5 : (wr.alloc (.cells (mutC x.m (.slice x.A x.n x.c)) 35)).cell? ⟨wr.heap.size, 5, none⟩ = some (.int .i64 x.m.exp) := BT.cell 5
      have d6 : (wr.alloc (.cells (mutC x.m (.slice x.A x.n x.c)) 35)).cell? ⟨wr.heap.size, 6, none⟩ = some (.int .i64 x.m.at_.1) := BT.cell 6
      have d7 : (wr.alloc (.cells (mutC x.m (.slice x.A x.n x.c)) 35)).cell? ⟨wr.heap.size, 7, none⟩ = some (.int .i64 x.m.at_.2.1) := BT.cell 7
      have d8 : (wr.alloc (.cells (mutC x.m (.slice x.A x.n x.c)) 35)).cell? ⟨wr.heap.size, 8, none⟩ = some (.int .i64 x.m.at_.2.2) := BT.cell 8
      have d9 : (wr.alloc (.cells (mutC x.m (.slice x.A x.n x.c)) 35)).cell? ⟨wr.heap.size, 9, none⟩ = some (.slice x.A x.n x.c) := BT.cell 9
      have OA := O.alloc (.cells (mutC x.m (.slice x.A x.n x.c)) 35)
      have GA := grown_alloc G (.cells (mutC x.m (.slice x.A x.n x.c)) 35)
      go_wp2_with fail
      clear c0 c1 c2 c3 c4 c5 c6 c7 c8 c9 d0 d1 d2 d3 d4 d5 d6 d7 d8 d9 BT
      change Calls _ _ _ (wr.alloc (.cells (mutC x.m (.slice x.A x.n x.c)) 35)) _
      have hbA : base ≤ (wr.alloc (.cells (mutC x.m (.slice x.A x.n x.c)) 35)).heap.size := by rw [World.size_alloc]; omega
      generalize wr.alloc (.cells (mutC x.m (.slice x.A x.n x.c)) 35) = W1 at *
      refine (mut_Put W1 base _ ((l ++ wputI (n : Int)) ++ (M.take k).flatMap mput) x.m x.A x.n x.c OA hbA HRX.out HID.out HLLn.out).mono ?_
      rintro y w8 ⟨v8, rfl, O8, G8, L8⟩
      rw [List.append_assoc, ← HF.out] at O8
      have G9 := grown_lies GA L G8
      have L9 := lies_trans GA.size L L8
      clear O OA GA G L G8 L8 HF hB0 hBb HRX
      go_wp2_with fail
      go_roundw
      case rel => exact ⟨k + 1, by go_num, by omega, O8, G9, L9⟩
      case measure => simp [RowKit.intOf]; omega
    · have hkn : k = n := by omega
      subst hkn
      rw [List.take_of_length_le (by rw [HLL.out]; exact Nat.le_refl _)] at O
      go_wp2_with fail
      go_ret
      refine ⟨_, rfl, ?_, G, L⟩
      unfold mall
      rw [HLL.out, ← List.append_assoc]
      exact O
end Go.Proofs.YthbhbechemnidaaDoor

namespace Go.Proofs.YthbhbechemnidaaDoor
open Go.RowKit Go.Sort

theorem own_made {w : World} {base size : Nat} {e : TypeId} (cur : Array Value) (cap : Nat) (hb : base ≤ w.heap.size) (hm : cap ≤ maxLen) (hs : cur.size = cap * size) : (w.alloc (.cells cur e)).ownsRow base e size (.slice (some ⟨w.heap.size, 0, none⟩) 0 cap) 0 [] := World.ownsRow_made w cur cap hb hm hs
def CpRel (w : World) (M : List Mut) (n : Nat) (v3 vk : Value) (wr : World) : Prop :=
  ∃ k : Nat, vk = .int .i64 k ∧ k ≤ n ∧ OwnM wr w.heap.size w.heap.size v3 (M.take k) ∧ Below w.heap.size w wr
def CopiesTo (w : World) (M : List Mut) (e : Ending) (w' : World) : Prop := ∃ v', e = .returned v' ∧ OwnM w' w.heap.size w.heap.size v' M ∧ Below w.heap.size w w'

set_option maxRecDepth 100000 in
set_option maxHeartbeats 4000000 in
theorem mut_Copies (A : Option Addr) (n c : Nat) (M : List Mut) (w : World) (hr : RdM w A n M) (hn : n ≤ 1000000) :
    Calls Tryd.prog 31 #[.slice A n c] w (CopiesTo w M) := by
  have hll := hr.n_eq
  have HR := Lib.hid hr
  have HLL := Lib.hid hll
  obtain ⟨i0, hi, hz0, hz1, hz2⟩ := info_parts info_mut
  have hmk := run_make (P := Tryd.prog) w 22 35 i0 (.agg #[.int .i64 0, .int .i64 0, .string ⟨#[]⟩, .string ⟨#[]⟩, .string ⟨#[]⟩, .int .i64 0, .int .i64 0, .int .i64 0, .int .i64 0, .slice none 0 0]) Tryd.underlying22 hi hz0 .i64 .i64 0 (n : Int) (Int.le_refl _) (by omega) (by rw [hz2]; omega) (by omega)
  rw [hz1, Int.toNat_zero, Int.toNat_natCast] at hmk
  have O0 : OwnM (w.alloc (.cells (madeCells (Value.agg #[.int .i64 0, .int .i64 0, .string ⟨#[]⟩, .string ⟨#[]⟩, .string ⟨#[]⟩, .int .i64 0, .int .i64 0, .int .i64 0, .int .i64 0, .slice none 0 0]).cells (n * 10)) 35)) w.heap.size w.heap.size (.slice (some ⟨w.heap.size, 0, none⟩) 0 n) [] :=
    ⟨[], rfl, own_made _ _ (Nat.le_refl _) (by unfold maxLen; omega) (size_madeCells _ _), Hangs.nil_, fun _ h => by (cases h), fun _ h => by cases h⟩
  have hB : Below w.heap.size w (w.alloc (.cells (madeCells (Value.agg #[.int .i64 0, .int .i64 0, .string ⟨#[]⟩, .string ⟨#[]⟩, .string ⟨#[]⟩, .int .i64 0, .int .i64 0, .int .i64 0, .int .i64 0, .slice none 0 0]).cells (n * 10)) 35)) := (Below.refl _ _).alloc (Nat.le_refl _) _
  obtain ⟨W0, hW0⟩ : ∃ W0, w.alloc (.cells (madeCells (Value.agg #[.int .i64 0, .int .i64 0, .string ⟨#[]⟩, .string ⟨#[]⟩, .string ⟨#[]⟩, .int .i64 0, .int .i64 0, .int .i64 0, .int .i64 0, .slice none 0 0]).cells (n * 10)) 35) = W0 := ⟨_, rfl⟩
  rw [hW0] at O0 hB hmk
  clear hr hll hi hz0 hz1 hz2 hW0
  go_enter Tryd.func31, Tryd.ntmps31
  go_wp2_with fail
  clear hmk
  go_loopw [3, 5, 11] (fun v3 _ v11 wr => CpRel w M n v3 v11 wr) (fun _ _ v11 _ => n - (RowKit.intOf v11).toNat)
  case atStart => exact ⟨0, rfl, Nat.zero_le _, O0, hB⟩
  case round =>
    clear O0 hB
    obtain ⟨k, rfl, hk, hO, hB⟩ := hrel
    have HO := Lib.hid hO
    clear hO
    by_cases hkn : k < n
    · have hkT : k < M.length := by have := HLL.out; omega
      obtain ⟨x, b, off, hx, hA, hb, hc, hrx, hz, hz2⟩ := HR.out.at_ hkT
      subst hA
      have HZ2 := Lib.hid hz2
      have HF : Hid (M.take k ++ [x.m] = M.take (k + 1)) := Lib.hid (by rw [hx, List.take_succ_eq_append_getElem hkT])
      have hrX := Lib.hid ((((hrx.below hB).more hB.size).alloc (Nat.le_refl _) (.cells (mutC x.m (.slice x.A x.n x.c)) 35)).more (B' := (wr.alloc (.cells (mutC x.m (.slice x.A x.n x.c)) 35)).heap.size) (by simp))
      have hol : x.m.ov.length ≤ 1000000000 := by
        have h9 := stamps_n hrx
        omega
      clear hx hrx hz2
      have c0 : wr.cell? ⟨b, off + k * 10, none⟩ = some (.int .i64 x.m.tab) := (World.cell?_of_block (hB.block b hb)).trans (hc 0 _ (by decide) rfl)
      have c1 : wr.cell? ⟨b, off + k * 10 + 1, none⟩ = some (.int .i64 x.m.kind) := (World.cell?_of_block (hB.block b hb)).trans (hc 1 _ (by decide) rfl)
      have c2 : wr.cell? ⟨b, off + k * 10 + 2, none⟩ = some (.string x.m.key) := (World.cell?_of_block (hB.block b hb)).trans (hc 2 _ (by decide) rfl)
      have c3 : wr.cell? ⟨b, off + k * 10 + 3, none⟩ = some (.string x.m.en) := (World.cell?_of_block (hB.block b hb)).trans (hc 3 _ (by decide) rfl)
      have c4 : wr.cell? ⟨b, off + k * 10 + 4, none⟩ = some (.string x.m.val) := (World.cell?_of_block (hB.block b hb)).trans (hc 4 _ (by decide) rfl)
      have c5 : wr.cell? ⟨b, off + k * 10 + 5, none⟩ = some (.int .i64 x.m.exp) := (World.cell?_of_block (hB.block b hb)).trans (hc 5 _ (by decide) rfl)
      have c6 : wr.cell? ⟨b, off + k * 10 + 6, none⟩ = some (.int .i64 x.m.at_.1) := (World.cell?_of_block (hB.block b hb)).trans (hc 6 _ (by decide) rfl)
      have c7 : wr.cell? ⟨b, off + k * 10 + 7, none⟩ = some (.int .i64 x.m.at_.2.1) := (World.cell?_of_block (hB.block b hb)).trans (hc 7 _ (by decide) rfl)
      have c8 : wr.cell? ⟨b, off + k * 10 + 8, none⟩ = some (.int .i64 x.m.at_.2.2) := (World.cell?_of_block (hB.block b hb)).trans (hc 8 _ (by decide) rfl)
      have c9 : wr.cell? ⟨b, off + k * 10 + 9, none⟩ = some (.slice x.A x.n x.c) := (World.cell?_of_block (hB.block b hb)).trans (hc 9 _ (by decide) rfl)
      clear hc
      have BT := Blk.new wr 35 (mutC x.m (.slice x.A x.n x.c))
      have d0 : (wr.alloc (.cells (mutC x.m (.slice x.A x.n x.c)) 35)).cell? ⟨wr.heap.size, 0, none⟩ = some (.int .i64 x.m.tab) := BT.cell 0
      have d1 : (wr.alloc (.cells (mutC x.m (.slice x.A x.n x.c)) 35)).cell? ⟨wr.heap.size, 1, none⟩ = some (.int .i64 x.m.kind) := BT.cell 1
      have d2 : (wr.alloc (.cells (mutC x.m (.slice x.A x.n x.c)) 35)).cell? ⟨wr.heap.size, 2, none⟩ = some (.string x.m.key) := BT.cell 2
      have d3 : (wr.alloc (.cells (mutC x.m (.slice x.A x.n x.c)) 35)).cell? ⟨wr.heap.size, 3, none⟩ = some (.string x.m.en) := BT.cell 3
      have d4 : (wr.alloc (.cells (mutC x.m (.slice x.A x.n x.c)) 35)).cell? ⟨wr.heap.size, 4, none⟩ = some (.string x.m.val) := BT.cell 4
      have d5 : (wr.alloc (.cells (mutC x.m (.slice x.A x.n x.c)) 35)).cell? ⟨wr.heap.size, 5, none⟩ = some (.int .i64 x.m.exp) := BT.cell 5
      have d6 : (wr.alloc (.cells (mutC x.m (.slice x.A x.n x.c)) 35)).cell? ⟨wr.heap.size, 6, none⟩ = some (.int .i64 x.m.at_.1) := BT.cell 6
      have d7 : (wr.alloc (.cells (mutC x.m (.slice x.A x.n x.c)) 35)).cell? ⟨wr.heap.size, 7, none⟩ = some (.int .i64 x.m.at_.2.1) := BT.cell 7
      have d8 : (wr.alloc (.cells (mutC x.m (.slice x.A x.n x.c)) 35)).cell? ⟨wr.heap.size, 8, none⟩ = some (.int .i64 x.m.at_.2.2) := BT.cell 8
      have d9 : (wr.alloc (.cells (mutC x.m (.slice x.A x.n x.c)) 35)).cell? ⟨wr.heap.size, 9, none⟩ = some (.slice x.A x.n x.c) := BT.cell 9
      have HO1 := Lib.hid (HO.out.below ((Below.refl _ _).alloc (Nat.le_refl _) (.cells (mutC x.m (.slice x.A x.n x.c)) 35)))
      have hB1 := hB.alloc hB.size (.cells (mutC x.m (.slice x.A x.n x.c)) 35)
      go_wp2_with fail
      clear c0 c1 c2 c3 c4 c5 c6 c7 c8 c9 d0 d1 d2 d3 d4 d5 d6 d7 d8 d9 BT HO hB
      change Calls _ _ _ (wr.alloc (.cells (mutC x.m (.slice x.A x.n x.c)) 35)) _
      generalize wr.alloc (.cells (mutC x.m (.slice x.A x.n x.c)) 35) = W1 at *
      refine (mut_Copy x.m x.A x.n x.c W1 hrX.out HZ2.out hz).mono ?_
      rintro y w2 ⟨v9, rfl, O9, b9⟩
      have HO2 := Lib.hid (HO1.out.below b9)
      have H22 := Lib.hid (HO1.out.lt)
      have hB2 := hB1.trans (b9.mono hB1.size)
      have hs1 := hB1.size
      have hs2 := b9.size
      clear b9 HO1 hrX
      obtain ⟨A9, c9, rfl, -, hAc, -⟩ := own_form O9
      have O := Lib.hid O9
      have HAC := Lib.hid hAc
      clear O9 hAc
      have hbs : w.heap.size ≤ w2.heap.size := Nat.le_trans hs1 hs2
      have hlen : (M.take k).length ≤ 1000000000 := by rw [List.length_take]; omega
      have HNE : Hid (∀ ad, A9 = some ad → u3.ownBlock ≠ some ad.block) := Lib.hid (fun ad hA e => by
        have h1 := (H22.out _ e).2
        have h2 := (World.ownsRow.lt O.out ad.block (by rw [hA]; rfl)).1
        omega)
      have HLO : Hid (∀ ad, A9 = some ad → w.heap.size ≤ ad.block ∧ ad.block < w2.heap.size) := Lib.hid (fun ad hA => by
        have h2 := World.ownsRow.lt O.out ad.block (by rw [hA]; rfl)
        omega)
      unfold mutC
      go_wp2_with (at_builtin; go_must (refine append_mut_u w2 x.m A9 x.m.ov.length c9 _ (by unfold mutC; simp) rfl _ _ rfl w.heap.size w.heap.size _ (M.take k) rfl HO2.out (Reads.of_own O.out) HNE.out HLO.out ⟨hol, HAC.out⟩ rfl hlen hbs ?_); intro v7 w7 O7 G7 _)
      rw [HF.out] at O7
      have hB7 := Below.grown (hB2.alloc hB2.size (.cells _ 35)) G7 (by rw [World.size_alloc]; omega) (fun q hq => (HO2.out.lt _ hq).1)
      clear HO2 O G7 hB1 hB2
      go_roundw
      case rel => exact ⟨k + 1, by go_num, by omega, O7, hB7⟩
      case measure => simp [RowKit.intOf]; omega
    · have hkn : k = n := by omega
      subst hkn
      have HO2 := HO.out
      rw [List.take_of_length_le (by rw [HLL.out]; exact Nat.le_refl _)] at HO2
      go_wp2_with fail
      go_ret
      exact ⟨_, rfl, HO2, hB⟩
end Go.Proofs.YthbhbechemnidaaDoor
