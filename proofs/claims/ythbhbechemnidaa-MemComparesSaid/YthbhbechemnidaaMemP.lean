/- Contracts of mem.Tree's Put and Len. -/
import Derived.Test.YthbhbechemnidaaMemV
import Derived.Test.YthbhbechemnidaaMemW
namespace Go.Proofs.Ythbhbechemnidaa
open Go.RowKit Go.Sort

/-- A tree's record: its root, and how many mutations it has. -/
structure TreeOk (w : World) (lo h : Nat) (t : TT) (k : Nat) : Prop where
  blk : Blk w h 71 #[.pointer t.adr, .int .i64 k]
  lies : t.Lies w lo
  nd : t.gs.Nodup
  few : k ≤ 1000000
theorem TreeOk.out {w : World} {lo h k : Nat} {t : TT} (o : TreeOk w lo h t k) : h ∉ t.gs := fun hq => by
  obtain ⟨_, cs, hb⟩ := o.lies.mem h hq
  have h1 : w.heap[h]? = some (.cells cs 95) := hb
  have h2 : w.heap[h]? = some (.cells #[.pointer t.adr, .int .i64 k] 71) := o.blk
  rw [h1] at h2
  injection h2 with h2
  injection h2 with _ h2 _
  exact absurd h2 (by decide)
theorem TreeOk.below {w w' : World} {lo h k : Nat} {t : TT} (o : TreeOk w lo h t k) (b : Below w.heap.size w w') : TreeOk w' lo h t k :=
  ⟨o.blk.below b o.blk.lt, (Anew.below (Anew.refl o.lies o.nd) b).lies, o.nd, o.few⟩
/-- What Put hands back. -/
def TPut (w : World) (lo h : Nat) (t : TT) (k : Nat) (m : Mut) (e : Ending) (w' : World) : Prop :=
  ∃ t', e = .returned (.bool (insM m t.list).2) ∧ TreeOk w' lo h t' (if (insM m t.list).2 = true then k + 1 else k) ∧ t'.list = (insM m t.list).1 ∧ Turned (h :: t.gs) w w'

set_option maxRecDepth 100000 in
set_option maxHeartbeats 4000000 in
theorem tree_Put (m : Mut) (A : Option Addr) (n c : Nat) (lo h k : Nat) (t : TT) (w : World) (ht : TreeOk w lo h t k) (hr : Reads w w.heap.size 3 A n (m.ov.flatMap sc)) (hA : A = none → c = 0) (hi : MutI m) (hw : WayM m t) (hlo : lo ≤ w.heap.size) (hk : k < 1000000) :
    Calls Try.prog 33 #[.pointer (some ⟨h, 0, none⟩), .agg (mutC m (.slice A n c))] w (TPut w lo h t k m) := by
  have hn : n ≤ 1000000 := by rw [← stamps_n hr]; exact hi.len
  have BK := Blk.new w 33 (mutC m (.slice A n c))
  have b1 : Below w.heap.size w (w.alloc (.cells (mutC m (.slice A n c)) 33)) := (Below.refl _ _).alloc (Nat.le_refl _) _
  have T1 := ht.below b1
  have HR := Lib.hid hr
  have HA := Lib.hid hA
  have HI := Lib.hid hi
  have HW := Lib.hid hw
  have HHT := Lib.hid ht.out
  have hhl := ht.blk.lt
  have HGL := Lib.hid ht.lies.lt
  have hs1 := b1.size
  clear hr hA hi hw ht
  go_enter Try.func33, Try.ntmps33
  go_upto_region 1 with fail
  generalize w.alloc (.cells (mutC m (.slice A n c)) 33) = W at *
  have q0 : ∀ p : Kept (fun q => q = w.heap.size ∨ q = h) W.drew, p.v.cell? ⟨w.heap.size, 0, none⟩ = some (.int .i64 m.tab) := fun p => p.h.cell (.inl rfl) (BK.drew.cell 0)
  have q1 : ∀ p : Kept (fun q => q = w.heap.size ∨ q = h) W.drew, p.v.cell? ⟨w.heap.size, 1, none⟩ = some (.int .i64 m.kind) := fun p => p.h.cell (.inl rfl) (BK.drew.cell 1)
  have q2 : ∀ p : Kept (fun q => q = w.heap.size ∨ q = h) W.drew, p.v.cell? ⟨w.heap.size, 2, none⟩ = some (.string m.key) := fun p => p.h.cell (.inl rfl) (BK.drew.cell 2)
  have q3 : ∀ p : Kept (fun q => q = w.heap.size ∨ q = h) W.drew, p.v.cell? ⟨w.heap.size, 3, none⟩ = some (.string m.en) := fun p => p.h.cell (.inl rfl) (BK.drew.cell 3)
  have q4 : ∀ p : Kept (fun q => q = w.heap.size ∨ q = h) W.drew, p.v.cell? ⟨w.heap.size, 4, none⟩ = some (.string m.val) := fun p => p.h.cell (.inl rfl) (BK.drew.cell 4)
  have q5 : ∀ p : Kept (fun q => q = w.heap.size ∨ q = h) W.drew, p.v.cell? ⟨w.heap.size, 5, none⟩ = some (.int .i64 m.exp) := fun p => p.h.cell (.inl rfl) (BK.drew.cell 5)
  have q6 : ∀ p : Kept (fun q => q = w.heap.size ∨ q = h) W.drew, p.v.cell? ⟨w.heap.size, 6, none⟩ = some (.int .i64 m.at_.1) := fun p => p.h.cell (.inl rfl) (BK.drew.cell 6)
  have q7 : ∀ p : Kept (fun q => q = w.heap.size ∨ q = h) W.drew, p.v.cell? ⟨w.heap.size, 7, none⟩ = some (.int .i64 m.at_.2.1) := fun p => p.h.cell (.inl rfl) (BK.drew.cell 7)
  have q8 : ∀ p : Kept (fun q => q = w.heap.size ∨ q = h) W.drew, p.v.cell? ⟨w.heap.size, 8, none⟩ = some (.int .i64 m.at_.2.2) := fun p => p.h.cell (.inl rfl) (BK.drew.cell 8)
  have q9 : ∀ p : Kept (fun q => q = w.heap.size ∨ q = h) W.drew, p.v.cell? ⟨w.heap.size, 9, none⟩ = some (.slice A n c) := fun p => p.h.cell (.inl rfl) (BK.drew.cell 9)
  have h0 : ∀ p : Kept (fun q => q = w.heap.size ∨ q = h) W.drew, p.v.cell? ⟨h, 0, none⟩ = some (.pointer t.adr) := fun p => p.h.cell (.inr rfl) (T1.blk.drew.cell 0)
  have bd : Below W.heap.size W W.drew := below_drewN (Below.refl W.heap.size W) 1
  have CC := Lib.hid (mut_Copy m A n c W.drew (((HR.out.below b1).more b1.size).drewN 1) HA.out (by omega))
  unfold mutC at CC
  have HB := Lib.hid (b1.trans (bd.mono b1.size))
  replace T1 := T1.below bd
  clear b1 bd
  refine wp_region_mixL (fun q => q = w.heap.size ∨ q = h) [] [0, 4, 6, 1, 2, 3, 5, 7, 8, 9, 10, 11, 12, 13] (by kernel_rfl) (by kernel_rfl) ?_
  iterate 6 (refine mix_calmL rfl rfl ?_; go_big_quiet_step (fail); refine wpQuiet_nil ?_)
  refine mix_loudL rfl (by kernel_rfl) ?_
  intro K1 hK1
  have HK := Lib.hid hK1
  clear hK1 q0 q1 q2 q3 q4 q5 q6 q7 q8 q9 h0
  go_wp2_with fail
  refine (CC.out).mono ?_
  rintro x w3 ⟨v3, rfl, O3, b3⟩
  have HS9 := Lib.hid (Stand.of_below (S := fun q => q = w.heap.size ∨ q = h) b3)
  replace T1 := T1.below b3
  have hs3 := b3.size
  replace HB := Lib.hid (HB.out.trans (b3.mono HB.out.size))
  obtain ⟨A9, c9, rfl, -, hA9, -⟩ := own_form O3
  have HO := Lib.hid O3
  have HA9 := Lib.hid hA9
  clear b3 O3 hA9 CC
  go_wp2_with fail
  refine HK.out _ _ (HS9.out) ?_
  clear HK
  clear HS9
  have CW := Lib.hid (mem_weigh m A n c w3 ((HR.out.below HB.out).more HB.out.size) HI.out)
  unfold mutC at CW
  refine mix_loudL rfl (by kernel_rfl) ?_
  intro K1 hK1
  have HK := Lib.hid hK1
  clear hK1 
  go_wp2_with fail
  refine (CW.out).mono ?_
  rintro x w4 ⟨⟨u, rfl⟩, b4⟩
  have HS9 := Lib.hid (Stand.of_below (S := fun q => q = w.heap.size ∨ q = h) b4)
  replace T1 := T1.below b4
  have hs4 := b4.size
  replace HB := Lib.hid (HB.out.trans (b4.mono HB.out.size))
  have HE : Hid (OwnE w4 lo ⟨m, A9, m.ov.length, c9⟩) := Lib.hid (OwnE.below ⟨own_base HO.out (Nat.le_trans hlo (Nat.le_trans hs1 (Nat.le_refl _))), rfl, by have := HI.out.len; show m.ov.length ≤ 1000000000; omega, HA9.out⟩ b4)
  clear b4 CW HO HA9
  go_wp2_with fail
  refine HK.out _ _ (HS9.out) ?_
  clear HK
  clear HS9
  obtain ⟨ok, hok⟩ : ∃ ok, (insM m t.list).2 = ok := ⟨_, rfl⟩
  have HOK := Lib.hid hok
  clear hok
  have CP := Lib.hid (mem_put ⟨m, A9, m.ov.length, c9⟩ u lo t w4 HE.out T1.lies T1.nd HW.out (Nat.le_trans hlo HB.out.size))
  unfold mutC at CP
  unfold mutC
  refine mix_loudL rfl (by kernel_rfl) ?_
  intro K1 hK1
  have HK := Lib.hid hK1
  clear hK1 
  go_wp2_with fail
  refine (CP.out).mono ?_
  rintro x w5 ⟨t', hx9, a5, hl5, -⟩
  have hx8 : x = .returned (.tuple #[.pointer t'.adr, .bool ok]) := by rw [hx9]; rw [← HOK.out]
  subst hx8
  clear hx9
  have HS9 : Hid (Stand (fun q => q = w.heap.size ∨ q = h) w4 w5) := Lib.hid ⟨a5.tr.os, a5.tr.tape, a5.tr.output, a5.tr.size, fun q hq hs => a5.tr.block q hq (by
    rcases hs with rfl | rfl
    · intro h9
      exact absurd (HGL.out _ h9) (Nat.lt_irrefl _)
    · exact HHT.out)⟩
  have BH := HS9.out.blk (.inr rfl) T1.blk
  have HL5 := Lib.hid hl5
  have A5 := Lib.hid a5
  have HTR : Hid (Turned t.gs w w5) := Lib.hid ((⟨HB.out.os, HB.out.tape, HB.out.output, HB.out.size, fun q hq _ => HB.out.block q hq⟩ : Turned t.gs w w4).trans a5.tr)
  clear CP a5 hl5 T1 HE
  go_wp2_with fail
  refine HK.out _ _ (HS9.out) ?_
  clear HK
  clear HS9
  iterate 5 (refine mix_calmL rfl rfl ?_; go_big_quiet_step (fail); refine wpQuiet_nil ?_)
  refine mix_endL ?_
  have fh := BH.frozen
  have c0 : w5.cell? ⟨h, 0, none⟩ = some (.pointer t.adr) := BH.cell 0
  have c1 : w5.cell? ⟨h, 1, none⟩ = some (.int .i64 k) := BH.cell 1
  have h5 : h ∉ t'.gs := fun hq => by
    obtain ⟨_, cs, hb⟩ := A5.out.lies.mem h hq
    have h1 : w5.heap[h]? = some (.cells cs 95) := hb
    have h2 : w5.heap[h]? = some (.cells #[.pointer t.adr, .int .i64 k] 71) := BH
    rw [h1] at h2
    injection h2 with h2
    injection h2 with _ h2 _
    exact absurd h2 (by decide)
  have H5 := Lib.hid h5
  have HBH := Lib.hid BH
  have hL : ∀ w6, Turned [h] w5 w6 → t'.Lies w6 lo := fun w6 T => A5.out.lies.keep (T.keepR HBH.out) fun q hq => T.block q (A5.out.lies.lt q hq) (fun hq2 => H5.out (by rw [← List.mem_singleton.1 hq2]; exact hq))
  have HLI := Lib.hid hL
  have TS : ∀ (w6 : World) (i : Nat) (x : Value), Turned [h] w6 (w6.setCell ⟨h, i, none⟩ x) := fun w6 i x => Turned.set (List.mem_cons_self ..) i x
  have HTS := Lib.hid TS
  clear h5 hL TS
  cases ok with
  | false =>
    go_wp2_with fail
    go_ret
    refine ⟨t', by rw [HOK.out]; rfl, ⟨?_, ?_, A5.out.nd, ?_⟩, HL5.out, ?_⟩
    · rw [HOK.out]
      exact HBH.out.set_ 0 _
    · exact HLI.out _ (HTS.out _ _ _)
    · rw [HOK.out]
      show k ≤ 1000000
      omega
    · exact (HTR.out.mono (fun q hq => List.mem_cons_of_mem _ hq)).trans ((HTS.out _ _ _).mono (fun q hq => by rw [List.mem_singleton.1 hq]; exact List.mem_cons_self ..))
  | true =>
    go_wp2_with fail
    go_ret
    refine ⟨t', by rw [HOK.out]; rfl, ⟨?_, ?_, A5.out.nd, ?_⟩, HL5.out, ?_⟩
    · rw [HOK.out]
      have := (HBH.out.set_ 0 (.pointer t'.adr)).set_ 1 (.int .i64 ((k + 1 : Nat) : Int))
      simpa using this
    · exact HLI.out _ ((HTS.out _ _ _).trans (HTS.out _ _ _))
    · rw [HOK.out]
      show k + 1 ≤ 1000000
      omega
    · exact (HTR.out.mono (fun q hq => List.mem_cons_of_mem _ hq)).trans (((HTS.out _ _ _).trans (HTS.out _ _ _)).mono (fun q hq => by rw [List.mem_singleton.1 hq]; exact List.mem_cons_self ..))

set_option maxRecDepth 100000 in
theorem tree_Len (lo h k : Nat) (t : TT) (w : World) (ht : TreeOk w lo h t k) :
    Calls Try.prog 35 #[.pointer (some ⟨h, 0, none⟩)] w fun e w' => e = .returned (.int .i64 k) ∧ w = w' := by
  have c1 : w.cell? ⟨h, 1, none⟩ = some (.int .i64 k) := ht.blk.cell 1
  clear ht
  go_enter Try.func35, Try.ntmps35
  go_wp2_with fail
  go_ret
  exact ⟨rfl, rfl⟩
end Go.Proofs.Ythbhbechemnidaa
