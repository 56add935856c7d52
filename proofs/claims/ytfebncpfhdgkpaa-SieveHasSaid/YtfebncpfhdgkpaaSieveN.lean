/- Contract of sieve.Join: the bytes of two filters of one size, bit by bit. At most 65536 bytes. -/
import Derived.Test.YtfebncpfhdgkpaaSieveK
import Derived.Test.YtfebncpfhdgkpaaSieveM
namespace Go.Proofs.Ytfebncpfhdgkpaa
open Go.RowKit Go.Sort

/-- Two rows of bytes, bit by bit. -/
def orL (l l2 : List UInt8) : List UInt8 := List.zipWith (fun x y => UInt8.ofNat (x.toNat ||| y.toNat)) l l2
theorem orL_len (l l2 : List UInt8) (h : l.length = l2.length) : (orL l l2).length = l.length := by unfold orL; simp; omega
theorem orL_get (l l2 : List UInt8) (i : Nat) (h1 : i < l.length) (h2 : i < l2.length) : (orL l l2)[i]? = some (UInt8.ofNat (l[i].toNat ||| l2[i].toNat)) := by
  unfold orL
  rw [List.getElem?_zipWith, List.getElem?_eq_getElem h1, List.getElem?_eq_getElem h2]
theorem or_lt (x y : UInt8) : x.toNat ||| y.toNat < 256 := Nat.or_lt_two_pow (n := 8) (UInt8.toNat_lt _) (UInt8.toNat_lt _)

/-- The first i bytes, the others 0. -/
def upl (L : List UInt8) (i : Nat) : List UInt8 := L.take i ++ List.replicate (L.length - i) 0
theorem upl_len (L : List UInt8) (i : Nat) (hi : i ≤ L.length) : (upl L i).length = L.length := by unfold upl; simp; omega
theorem upl_zero (L : List UInt8) : upl L 0 = List.replicate L.length 0 := by simp [upl]
theorem upl_all (L : List UInt8) : upl L L.length = L := by simp [upl]
theorem upl_succ (L : List UInt8) (i : Nat) (hi : i < L.length) : upl L (i + 1) = (upl L i).set i L[i] := by
  unfold upl
  have hl : (L.take i).length = i := by simp; omega
  rw [List.set_append_right _ _ (by omega), hl, Nat.sub_self, List.take_succ_eq_append_getElem hi, show L.length - i = (L.length - (i + 1)) + 1 by omega, List.replicate_succ, List.set_cons_zero, List.append_assoc]
  rfl

set_option maxRecDepth 100000 in
set_option maxHeartbeats 4000000 in
theorem sieve_Join (A : Option Addr) (n c : Nat) (l : List UInt8) (A2 : Option Addr) (n2 c2 : Nat) (l2 : List UInt8) (w : World) (hr : Reads w w.heap.size 1 A n (l.map vb)) (hr2 : Reads w w.heap.size 1 A2 n2 (l2.map vb)) (hn : n ≤ 65536) (hn2 : n2 ≤ 65536) :
    Calls Try.prog 40 #[.agg #[.slice A n c], .agg #[.slice A2 n2 c2]] w fun e w' => ∃ v', e = .returned (.tuple #[.agg #[v'], .bool (decide (n = n2))]) ∧ Own w' w.heap.size v' (if n = n2 then orL l l2 else []) ∧ Below w.heap.size w w' := by
  have hl := hr.len
  have hl2 := hr2.len
  have HR := Lib.hid hr
  have HR2 := Lib.hid hr2
  have HL := Lib.hid hl
  have HL2 := Lib.hid hl2
  have B0 := ((Blk.new w 61 #[.slice A n c]).alloc (.cells #[.slice A2 n2 c2] 61)).alloc (.cells #[.slice none 0 0] 61)
  have B1 := (Blk.new (w.alloc (.cells #[.slice A n c] 61)) 61 #[.slice A2 n2 c2]).alloc (.cells #[.slice none 0 0] 61)
  have B2 := Blk.new ((w.alloc (.cells #[.slice A n c] 61)).alloc (.cells #[.slice A2 n2 c2] 61)) 61 #[.slice none 0 0]
  have hB : Below w.heap.size w (((w.alloc (.cells #[.slice A n c] 61)).alloc (.cells #[.slice A2 n2 c2] 61)).alloc (.cells #[.slice none 0 0] 61)) := (((Below.refl _ _).alloc (Nat.le_refl _) _).alloc (by simp) _).alloc (by simp; omega) _
  have hW : (((w.alloc (.cells #[.slice A n c] 61)).alloc (.cells #[.slice A2 n2 c2] 61)).alloc (.cells #[.slice none 0 0] 61)).heap.size ≥ w.heap.size + 3 := by simp
  simp only [alloc_size] at B1 B2
  clear hr hr2 hl hl2
  go_enter Try.func40, Try.ntmps40
  go_upto_region 1 with fail
  generalize ((w.alloc (.cells #[.slice A n c] 61)).alloc (.cells #[.slice A2 n2 c2] 61)).alloc (.cells #[.slice none 0 0] 61) = W at *
  have c0 := B0.cell
  have c1 := B1.cell
  have f2 := B2.frozen
  have c2' := B2.cell
  by_cases he : n = n2
  · subst he
    have hne : ((n : Int) != (n : Int)) = false := by simp
    obtain ⟨i0, hi, hz0, hz1, hz2⟩ := info_parts info_u8
    go_wp2_with (at_make; refine wpList_make_full _ rfl _ _ 46 rfl W.heap.size 5 i0 (.int .u8 0) 1 Try.underlying46 hi hz0 hz1 .i64 .i64 _ _ n rfl rfl rfl rfl (by rw [hz2]; omega) (by unfold maxLen; omega) (Nat.le_refl _) ?_; intro w2 O2 G2)
    have hO : Own w2 W.heap.size (.slice (some ⟨W.heap.size, 0, none⟩) n n) (upl (orL l l2) 0) := by
      rw [upl_zero, orL_len _ _ (by rw [HL.out, HL2.out]), HL.out]
      unfold Own
      rw [List.length_replicate, List.map_replicate]
      have h9 := O2
      rw [show (Value.int IntKind.u8 0).cells = #[.int .u8 0] from rfl, toList_madeCells_one, Nat.mul_one] at h9
      exact h9
    have hw2 := G2.size
    replace B0 := B0.grown G2 (by simp)
    replace B1 := B1.grown G2 (by simp)
    replace B2 := B2.grown G2 (by simp)
    replace hB := Below.grown hB G2 hB.size (by simp)
    have BO := Blk.new w2 61 #[.slice (some ⟨W.heap.size, 0, none⟩) n n]
    have hw3 : W.heap.size < w2.heap.size := (hO.lt _ rfl).2
    replace B0 := B0.alloc (.cells #[.slice (some ⟨W.heap.size, 0, none⟩) n n] 61)
    replace B1 := B1.alloc (.cells #[.slice (some ⟨W.heap.size, 0, none⟩) n n] 61)
    replace B2 := B2.alloc (.cells #[.slice (some ⟨W.heap.size, 0, none⟩) n n] 61)
    replace hO := hO.alloc (.cells #[.slice (some ⟨W.heap.size, 0, none⟩) n n] 61)
    replace hB := hB.alloc (by omega) (.cells #[.slice (some ⟨W.heap.size, 0, none⟩) n n] 61)
    clear O2 G2 hi hz0 hz1 hz2 c0 c1 f2 c2'
    generalize w2.alloc (.cells #[.slice (some ⟨W.heap.size, 0, none⟩) n n] 61) = W2 at *
    generalize w2.heap.size = go at *
    generalize W.heap.size = gb at *
    have hlo := orL_len l l2 (by rw [HL.out, HL2.out])
    rw [HL.out] at hlo
    have cO := BO.cell
    go_wp2_with fail
    clear cO
    go_loopw [24] (fun v24 wr => ∃ i : Nat, v24 = .int .i64 i ∧ i ≤ n ∧ Own wr gb (.slice (some ⟨gb, 0, none⟩) n n) (upl (orL l l2) i) ∧ Blk wr w.heap.size 61 #[.slice A n c] ∧ Blk wr (w.heap.size + 1) 61 #[.slice A2 n c2] ∧ Blk wr (w.heap.size + 1 + 1) 61 #[.slice none 0 0] ∧ Blk wr go 61 #[.slice (some ⟨gb, 0, none⟩) n n] ∧ Below w.heap.size w wr) (fun v24 _ => n - (intOf v24).toNat)
    case atStart => exact ⟨0, rfl, Nat.zero_le _, hO, B0, B1, B2, BO, hB⟩
    case round =>
      clear hO B0 B1 B2 BO hB
      obtain ⟨i, rfl, hin, hO, B0, B1, B2, BO, hB⟩ := hrel
      by_cases hi : i < n
      · obtain ⟨b, off, rfl, hb, hc⟩ := Reads.form (HR.out.below hB) (by omega)
        obtain ⟨b2, off2, rfl, hb2, hcc⟩ := Reads.form (HR2.out.below hB) (by omega)
        have hil : i < l.length := by have := HL.out; omega
        have hil2 : i < l2.length := by have := HL2.out; omega
        have q0 := hc i (vb l[i]) (by simp [hil])
        have q1 := hcc i (vb l2[i]) (by simp [hil2])
        unfold vb at q0 q1
        have hst := upl_succ (orL l l2) i (by omega)
        have hoi := orL_get l l2 i hil hil2
        rw [List.getElem?_eq_getElem (by omega)] at hoi
        injection hoi with hoi
        rw [hoi] at hst
        have hor := u8_or_nat l[i].toNat l2[i].toNat (UInt8.toNat_lt _) (UInt8.toNat_lt _)
        have hol := or_lt l[i] l2[i]
        have hul := upl_len (orL l l2) i (by omega)
        obtain ⟨hO', hG'⟩ := hO.set_at i (UInt8.ofNat (l[i].toNat ||| l2[i].toNat)) (.int .u8 ((l[i].toNat ||| l2[i].toNat : Nat) : Int)) (by unfold vb; rw [UInt8.toNat_ofNat', Nat.mod_eq_of_lt hol])
        generalize l[i].toNat = x at *
        generalize l2[i].toNat = y at *
        have HOR := Lib.hid hor
        have HST := Lib.hid hst
        have hcell := hO.cell_at i (by omega)
        have hfro : wr.frozen? ⟨gb, i, none⟩ = false := hO.frozen rfl _
        have c0 := B0.cell
        have c1 := B1.cell
        have cO := BO.cell
        have hB0' := (B0.grown hG' (by simp; omega)).drew
        have hB1' := (B1.grown hG' (by simp; omega)).drew
        have hB2' := (B2.grown hG' (by simp; omega)).drew
        have hBO' := (BO.grown hG' (by simp; omega)).drew
        have hB' := below_drewN (Below.grown hB hG' hB.size (fun q hq => by injection hq with hq; omega)) 1
        have hO'' := hO'.drewN 1
        clear hc hcc hor hst hoi
        go_upto_region 7 with fail
        go_region
        rw [HOR.out]
        go_wp2_with fail
        go_roundw
        case rel => exact ⟨i + 1, by go_num, by omega, by rw [HST.out]; exact hO'', hB0', hB1', hB2', hBO', hB'⟩
        case measure => simp [intOf]; omega
      · have hie : i = (orL l l2).length := by omega
        rw [hie, upl_all] at hO
        have HO := Lib.hid hO
        clear hO hie
        have cO := BO.cell
        have f2 := B2.frozen
        have c2' := B2.cell
        have zz := (B2.set_ 0 (.slice (some ⟨gb, 0, none⟩) n n)).cell
        simp at zz
        have G3 := only_set0 wr (w.heap.size + 1 + 1) 0 (.slice (some ⟨gb, 0, none⟩) n n)
        have hB' := Below.grown hB G3 hB.size (fun q hq => by injection hq with hq; omega)
        have hO' := (HO.out.kept G3 (.inr (by simp [Value.ownBlock]; omega))).base_le (base' := w.heap.size) (by omega)
        go_wp2_with fail
        refine bodyPost_ret (v := .tuple #[.agg #[.slice (some ⟨gb, 0, none⟩) n n], .bool true]) (by simp [results, Try.results40, go_sem, zz]) rfl ⟨.slice (some ⟨gb, 0, none⟩) n n, by simp, by first | exact hO' | (rw [if_pos rfl]; exact hO'), hB'⟩
  · have hne : ((n : Int) != (n2 : Int)) = true := by simp; omega
    have hd : decide (n = n2) = false := by simp [he]
    have zz := (B2.set_ 0 (.slice none 0 0)).cell
    simp at zz
    have G3 := only_set0 W (w.heap.size + 1 + 1) 0 (.slice none 0 0)
    have hB' := Below.grown hB G3 hB.size (fun q hq => by injection hq with hq; omega)
    have HE := Lib.hid he
    clear he
    go_wp2_with fail
    refine bodyPost_ret (v := .tuple #[.agg #[.slice none 0 0], .bool false]) (by simp [results, Try.results40, go_sem, zz]) rfl ⟨.slice none 0 0, by first | rfl | (rw [hd]), by first | exact Own.nil_ _ _ | (rw [if_neg HE.out]; exact Own.nil_ _ _), hB'⟩
end Go.Proofs.Ytfebncpfhdgkpaa
