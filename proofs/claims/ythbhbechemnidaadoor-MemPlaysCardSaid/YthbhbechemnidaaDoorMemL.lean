/- Contract of the law's alive: the chapter's example. -/
import Derived.Test.YthbhbechemnidaaDoorMemF
import Derived.Test.YthbhbechemnidaaDoorMutE
namespace Go.Proofs.YthbhbechemnidaaDoor
open Go.RowKit Go.Sort

theorem Turned.under {G : List Nat} {B : Nat} {w w' : World} (h : Turned G w w') (hG : ∀ q ∈ G, B ≤ q) (hB : B ≤ w.heap.size) : Below B w w' :=
  ⟨h.os, h.tape, h.output, h.size, fun k hk => h.block k (by omega) (fun hq => by have := hG k hq; omega)⟩
theorem TT.list_nil : ∀ {t : TT}, t.list = [] → t = .nil
  | .nil, _ => rfl
  | .node _ l e _ r, h => by
    have h' : l.list ++ e.m :: r.list = [] := h
    simp at h'
theorem wayM_one (m : Mut) : ∀ t : TT, t.list.length ≤ 1 → WayM m t
  | .nil, _ => trivial
  | .node g l e wt r, h => by
    have h' : (l.list ++ e.m :: r.list).length ≤ 1 := h
    rw [List.length_append, List.length_cons] at h'
    have hl : l.list = [] := List.eq_nil_of_length_eq_zero (by omega)
    have hr : r.list = [] := List.eq_nil_of_length_eq_zero (by omega)
    rw [TT.list_nil hl, TT.list_nil hr]
    exact ⟨trivial, trivial, fun _ => fun a ha => by cases ha⟩
theorem bytesLess_nil (l : List UInt8) : Op.bytesLess l [] = false := by cases l <;> rfl
theorem from_empty : ∀ t : TT, t.from_ ⟨#[]⟩ = t.list
  | .nil => rfl
  | .node g l e wt r => by
    show (if geK ⟨#[]⟩ e.m = true then l.from_ ⟨#[]⟩ ++ e.m :: r.from_ ⟨#[]⟩ else r.from_ ⟨#[]⟩) = l.list ++ e.m :: r.list
    have hk : geK ⟨#[]⟩ e.m = true := by
      unfold geK
      rw [show (⟨#[]⟩ : ByteArray).toList = [] by rw [ByteArray.toList_eq], bytesLess_nil]
      rfl
    rw [if_pos hk, from_empty l, from_empty r]

theorem head_of {L : List MutS} {a : Mut} {r : List Mut} (h : L.map (·.m) = a :: r) : ∃ x t, L = x :: t ∧ x.m = a := by
  cases L with
  | nil => cases h
  | cons x t => exact ⟨x, t, rfl, (List.cons.inj h).1⟩
def muB : Mut := ⟨1, 1, ⟨#[98]⟩, ⟨#[]⟩, ⟨#[]⟩, 0, (1, 0, 0), []⟩
def muA : Mut := ⟨1, 1, ⟨#[97]⟩, ⟨#[]⟩, ⟨#[]⟩, 0, (2, 0, 0), []⟩
theorem muB_in : MutI muB := ⟨by decide, by decide, by decide, by decide, by decide, by decide, by decide, by decide, by decide⟩
theorem muA_in : MutI muA := ⟨by decide, by decide, by decide, by decide, by decide, by decide, by decide, by decide, by decide⟩
theorem ins_ab : insM muA [muB] = ([muA, muB], true) := by
  have h0 : cmpT muA.key muB.key = -1 := by
    unfold cmpT
    rw [ByteArray.toList_eq, ByteArray.toList_eq]
    rfl
  have h : cmpMem muA muB = -1 := by
    unfold cmpMem
    rw [h0]
    rfl
  show (if cmpMem muA muB = 0 then ([muB], false) else if cmpMem muA muB < 0 then ([muA, muB], true) else (muB :: (insM muA []).1, (insM muA []).2)) = _
  rw [h]
  rfl
theorem reads_no (w : World) (B k : Nat) : Reads w B k none 0 [] := ⟨by simp, fun h => absurd h (by omega)⟩

set_option maxRecDepth 100000 in
set_option maxHeartbeats 2000000 in
theorem law13_alive (w : World) : Calls Tryd.prog 23 #[] w fun e w' => e = .returned (.bool true) ∧ Below w.heap.size w w' := by
  have BT := Blk.new w 27 #[.pointer none, .int .i64 0]
  have hB : Below w.heap.size w (w.alloc (.cells #[.pointer none, .int .i64 0] 27)) := (Below.refl _ _).alloc (Nat.le_refl _) _
  go_enter Tryd.func23, Tryd.ntmps23
  go_wp2_with fail
  generalize w.alloc (.cells #[.pointer none, .int .i64 0] 27) = W at *
  have T0 : TreeOk W w.heap.size w.heap.size .nil 0 := ⟨BT, trivial, List.nodup_nil, by omega⟩
  have C1 := tree_Put muB none 0 0 w.heap.size w.heap.size 0 .nil W T0 (reads_no _ _ _) (fun _ => rfl) muB_in trivial hB.size (by omega)
  refine C1.mono ?_
  rintro x w2 ⟨t1, hx, T1, l1, tr1⟩
  have hx1 : x = .returned (.bool true) := hx
  subst hx1
  have hB1 := hB.trans (tr1.under (B := w.heap.size) (fun q hq => by rw [List.mem_singleton.1 hq]; exact Nat.le_refl _) hB.size)
  replace l1 : t1.list = [muB] := l1
  replace T1 : TreeOk w2 w.heap.size w.heap.size t1 1 := T1
  clear C1 T0 tr1 BT hB hx
  have C2 := Lib.hid (tree_Put muA none 0 0 w.heap.size w.heap.size 1 t1 w2 T1 (reads_no _ _ _) (fun _ => rfl) muA_in (wayM_one _ _ (by rw [l1]; decide)) hB1.size (by omega))
  have HT1 := Lib.hid T1
  have HL1 := Lib.hid l1
  clear T1 l1
  go_wp2_with fail
  refine C2.out.mono ?_
  rintro x w3 ⟨t2, hx, T2, l2, tr2⟩
  rw [HL1.out, ins_ab] at l2 T2 hx
  have hx1 : x = .returned (.bool true) := hx
  subst hx1
  replace T2 : TreeOk w3 w.heap.size w.heap.size t2 2 := T2
  replace l2 : t2.list = [muA, muB] := l2
  have hB2 := hB1.trans (tr2.under (B := w.heap.size) (fun q hq => by
    rcases List.mem_cons.1 hq with rfl | hq
    · exact Nat.le_refl _
    · exact (HT1.out.lies.mem q hq).1) hB1.size)
  clear C2 hx tr2 hB1
  have C3 := Lib.hid (law13_from w.heap.size 2 ⟨#[]⟩ t2 w3 T2.blk (TT.In.of_lies T2.lies) (by rw [from_empty, l2]; decide))
  have HT2 := Lib.hid T2
  have HL2 := Lib.hid l2
  clear T2 l2
  go_wp2_with fail
  refine C3.out.mono ?_
  rintro x w4 ⟨v4, rfl, O4, b4⟩
  rw [from_empty, HL2.out] at O4
  obtain ⟨A, c, rfl, -, -, L, hL, h1, -, -⟩ := O4.rd
  obtain ⟨x1, xt, rfl, hx1⟩ := head_of hL
  obtain ⟨b, off, rfl, hb, hc⟩ := mut_at h1 (k := 0) (by simp)
  have q2 : w4.cell? ⟨b, off + 2, none⟩ = some (.string ⟨#[97]⟩) := by
    have := hc 2 (.string x1.m.key) (by decide) rfl
    rw [hx1] at this
    exact this
  have T4 := HT2.out.below b4
  have C4 := Lib.hid (tree_Len w.heap.size w.heap.size 2 t2 w4 T4)
  have hB4 := hB2.trans (b4.mono hB2.size)
  clear C3 O4 hL h1 hx1 hc HT2 HL2 hB2 b4 T4
  go_wp2_with fail
  refine C4.out.mono ?_
  rintro x w5 ⟨rfl, rfl⟩
  go_wp2_with fail
  go_ret
  exact ⟨rfl, hB4⟩
end Go.Proofs.YthbhbechemnidaaDoor
