/- Contract of gaps.Get. -/
import Derived.Test.YtfebncpfhdgkpaaRdrC
import Derived.Test.YtfebncpfhdgkpaaPlainH
import Derived.Test.YtfebncpfhdgkpaaInts
import Derived.Outline
namespace Go.Proofs.Ytfebncpfhdgkpaa
open Go.RowKit Go.Sort

/-- What a Get hands back: the row that begins the bytes, or none, and then there is a fault. -/
def GetTo (w : World) (g : Nat) (A : Option Addr) (n c : Nat) (L : List UInt8) (k : Nat) (why : Int) (e : Ending) (w' : World) : Prop :=
  ∃ (v' : Value) (row : List Int) (k' : Nat) (why' : Int), e = .returned v' ∧ OwnI w' w.heap.size v' row ∧ Rd w' g A n c L k' why' ∧ w.grownBy w' (some g) ∧
    (why' = 0 → rGet (L.drop k) why = some (row, k' - k) ∧ k ≤ k') ∧ (why' ≠ 0 → row = [] ∧ rGet (L.drop k) why = none)

/-- While the row is read: so many numbers are. -/
def GetRel (w : World) (g : Nat) (A : Option Addr) (n c : Nat) (L : List UInt8) (k0 cnt : Nat) (v3 v4 v8 : Value) (wr : World) : Prop :=
  ∃ (j k : Nat) (last : Int) (row : List Int), v8 = .int .i64 j ∧ j ≤ cnt ∧ v4 = .int .i64 last ∧ -1 ≤ last ∧ last < 4611686018427387904 ∧ row.length = j ∧ OwnI wr w.heap.size v3 row ∧ Rd wr g A n c L k 0 ∧ w.grownBy wr (some g) ∧ k0 ≤ k ∧
    gg cnt (L.drop k0) (-1) = (gg (cnt - j) (L.drop k) last).map fun q => (row ++ q.1, (k - k0) + q.2)

theorem gg_step {c : Nat} {l : List UInt8} {last : Int} {v m : Nat} (hq : rnum l = (v, m, 0)) (h : (v : Int) ≤ 4611686018427387902 - last) :
    gg (c + 1) l last = (gg c (l.drop m) (last + (v + 1))).map fun q => ((last + (v + 1)) :: q.1, m + q.2) := by
  rw [gg, hq]
  simp only
  rw [if_pos ⟨trivial, h⟩]
theorem gg_stop {c : Nat} {l : List UInt8} {last : Int} {v m : Nat} {e : Int} (hq : rnum l = (v, m, e)) (h : e ≠ 0 ∨ ¬ (v : Int) ≤ 4611686018427387902 - last) : gg (c + 1) l last = none := by
  rw [gg, hq]
  simp only
  rw [if_neg]
  rintro ⟨h1, h2⟩
  rcases h with h | h
  · exact h h1
  · exact h h2

theorem grown_own {w a b : World} {g base : Nat} {v : Value} {row : List Int} (h1 : w.grownBy a (some g)) (hown : OwnI a base v row) (h2 : a.grownBy b v.ownBlock) (hb : w.heap.size ≤ base := by omega) : w.grownBy b (some g) :=
  ⟨h2.os.trans h1.os, h2.tape.trans h1.tape, h2.output.trans h1.output, Nat.le_trans h1.size h2.size, fun k hk hne => (h2.block k (Nat.lt_of_lt_of_le hk h1.size) (fun e => by have := hown.lt k e.symm; omega)).trans (h1.block k hk hne)⟩

set_option maxRecDepth 100000 in
set_option maxHeartbeats 2000000 in
theorem gaps_Get (w : World) (g : Nat) (A : Option Addr) (n c : Nat) (L : List UInt8) (k : Nat) (why : Int) (h : Rd w g A n c L k why) :
    Calls Try.prog 48 #[.pointer (some ⟨g, 0, none⟩)] w (GetTo w g A n c L k why) := by
  have hC := Lib.hid (reader_Count w g A n c L k why 4096 h)
  have hglt := h.blk.lt
  have hfin : ∀ cnt m e0, rCount (L.drop k) 4096 why = (cnt, m, e0) → (e0 ≠ 0 → rGet (L.drop k) why = none ∧ cnt = 0) ∧ (e0 = 0 → rGet (L.drop k) why = (gg cnt (L.drop (k + m)) (-1)).map (fun q => (q.1, m + q.2)) ∧ cnt ≤ 4096) := by
    intro cnt m e0 hq
    unfold rGet
    rw [hq]
    simp only
    constructor
    · intro he
      rw [if_neg he]
      refine ⟨rfl, ?_⟩
      have f3 := (rNum_facts (L.drop k) why).2.2
      unfold rCount at hq
      split at hq
      · simp at hq; omega
      · rw [hq] at f3; exact (f3 he).1
    · intro he
      subst he
      rw [if_pos rfl, List.drop_drop]
      refine ⟨rfl, ?_⟩
      unfold rCount at hq
      split at hq
      · simp at hq
      · rename_i hc9
        rw [hq] at hc9
        simp only [true_and] at hc9
        omega
  obtain ⟨cnt, m, e0, hq⟩ : ∃ cnt m e0, rCount (L.drop k) 4096 why = (cnt, m, e0) := ⟨_, _, _, rfl⟩
  have hF := hfin cnt m e0 hq
  rw [hq] at hC
  simp only [] at hC
  have HF := Lib.hid hF
  clear hfin hF hq h
  go_enter Try.func48, Try.ntmps48
  go_wp2_with fail
  refine hC.out.mono ?_
  rintro e w1 ⟨rfl, R1, g1⟩
  clear hC
  by_cases he : e0 = 0
  · subst he
    obtain ⟨hg0, hcnt⟩ := HF.out.2 rfl
    have HG := Lib.hid hg0
    clear HF hg0
    go_wp2_with fail
    go_loopw [3, 4, 8] (fun v3 v4 v8 wr => GetRel w g A n c L (k + m) cnt v3 v4 v8 wr) (fun _ _ v8 _ => cnt - (intOf v8).toNat)
    case atStart => exact ⟨0, k + m, -1, [], rfl, Nat.zero_le _, rfl, by decide, by decide, rfl, OwnI.nil_ _ _, R1, g1, Nat.le_refl _, by simp⟩
    case round =>
      clear R1 g1
      obtain ⟨j, q, last, row, rfl, hj, rfl, hl0, hl1, hrow, OV, R, G, hkq, hgg⟩ := hrel
      have hbw := G.size
      have HGG := Lib.hid hgg
      clear hgg
      by_cases hjc : j < cnt
      · have hN := Lib.hid (reader_Num wr g A n c L q 0 R)
        obtain ⟨f1, f2, f3⟩ := rNum_facts (L.drop q) 0
        obtain ⟨v, mm, e1, hqv⟩ : ∃ v mm e1, rNum (L.drop q) 0 = (v, mm, e1) := ⟨_, _, _, rfl⟩
        rw [hqv] at hN f1 f2 f3
        simp only [] at hN f1 f2 f3
        have hrn : rnum (L.drop q) = (v, mm, e1) := by rw [← hqv]; unfold rNum; rw [if_pos rfl]
        have HRN := Lib.hid hrn
        have hcj : cnt - j = (cnt - (j + 1)) + 1 := by omega
        have HCJ := Lib.hid hcj
        clear hqv hrn hcj f2
        go_wp2_with fail
        refine hN.out.mono ?_
        rintro e w2 ⟨rfl, R2, g2⟩
        have OV2 := OV.kept g2 (OV.ne hglt)
        have G2 := grown_trans' G g2
        clear hN OV R G g2
        by_cases he1 : e1 = 0
        · subst he1
          clear f3
          by_cases hv : (v : Int) ≤ 4611686018427387902 - last
          · have hvd : decide (4611686018427387902 - last < (v : Int)) = false := by simp; omega
            have HS := Lib.hid (gg_step (c := cnt - (j + 1)) HRN.out hv)
            go_wp2_with fail
            refine (reader_Why _ g _ n c L _ 0 R2).mono ?_
            rintro e w3 ⟨rfl, rfl⟩
            go_wp2_with fail
            refine (reader_Why _ g _ n c L _ 0 R2).mono ?_
            rintro e w3 ⟨rfl, rfl⟩
            have hb2 : w.heap.size ≤ w2.heap.size := G2.size
            go_wp2_with (at_builtin; refine append_int w2 (last + ((v : Int) + 1)) _ rfl _ _ rfl w.heap.size _ row rfl OV2 rfl (by omega) hb2 ?_; intro v6 w6 R6 g6 L6)
            have R6' := R2.grown g6 (fun x hx => by have := OV2.lt x hx; omega)
            have hG6 : w.grownBy w6 (some g) := grown_own G2 OV2 g6
            have hgg6 : gg cnt (L.drop (k + m)) (-1) = (gg (cnt - (j + 1)) (L.drop (q + mm)) (last + (v + 1))).map fun p => ((row ++ [last + (v + 1)]) ++ p.1, (q + mm - (k + m)) + p.2) := by
              rw [HGG.out, HCJ.out, HS.out, List.drop_drop, Option.map_map]
              congr 1
              funext p
              simp only [Function.comp, List.append_assoc, List.singleton_append, Prod.mk.injEq, true_and]
              omega
            go_roundw
            case rel => exact ⟨j + 1, q + mm, last + (v + 1), row ++ [last + (v + 1)], by go_num, by omega, rfl, by omega, by omega, by simp; omega, R6, R6', hG6, by omega, hgg6⟩
            case measure => simp [intOf]; omega
          · have hvd : decide (4611686018427387902 - last < (v : Int)) = true := by simp; omega
            have hnone : rGet (L.drop k) why = none := by
              rw [HG.out, HGG.out, HCJ.out, gg_stop HRN.out (.inr hv)]
              rfl
            have HN := Lib.hid hnone
            clear hnone hv
            go_wp2_with fail
            refine (reader_Why _ g _ n c L _ 0 R2).mono ?_
            rintro e w3 ⟨rfl, rfl⟩
            go_wp2_with fail
            refine (reader_Fail _ g _ n c L _ 0 31 R2).mono ?_
            rintro e w3 ⟨rfl, rfl⟩
            rw [if_pos rfl]
            go_wp2_with fail
            refine (reader_Why _ g _ n c L _ 31 (R2.fail 31)).mono ?_
            rintro e w3 ⟨rfl, rfl⟩
            go_wp2_with fail
            go_ret
            exact ⟨_, [], _, 31, rfl, OwnI.nil_ _ _, R2.fail 31, grown_trans' G2 (only_set _ _ _ _), fun h9 => absurd h9 (by decide), fun _ => ⟨rfl, HN.out⟩⟩
        · have hnone : rGet (L.drop k) why = none := by
            rw [HG.out, HGG.out, HCJ.out, gg_stop HRN.out (.inl he1)]
            rfl
          have HN := Lib.hid hnone
          have hed : (e1 == 0) = false := by simp [he1]
          have hed' : (e1 != 0) = true := by simp [he1]
          have HE := Lib.hid he1
          clear hnone he1 f3
          go_wp2_with fail
          refine (reader_Why _ g _ n c L _ e1 R2).mono ?_
          rintro e w3 ⟨rfl, rfl⟩
          go_wp2_with fail
          refine (reader_Why _ g _ n c L _ e1 R2).mono ?_
          rintro e w3 ⟨rfl, rfl⟩
          go_wp2_with fail
          go_ret
          exact ⟨_, [], _, e1, rfl, OwnI.nil_ _ _, R2, G2, fun h9 => absurd h9 HE.out, fun _ => ⟨rfl, HN.out⟩⟩
      · have hje : j = cnt := by omega
        subst hje
        have hsome : rGet (L.drop k) why = some (row, q - k) := by
          rw [HG.out, HGG.out, Nat.sub_self]
          simp only [gg, Option.map_some, List.append_nil, Option.some.injEq, Prod.mk.injEq, true_and]
          omega
        have HSo := Lib.hid hsome
        clear hsome
        have hlt : decide (j < j) = false := by simp
        go_wp2_with fail
        refine (reader_Why _ g _ n c L _ 0 R).mono ?_
        rintro e w3 ⟨rfl, rfl⟩
        go_wp2_with fail
        go_ret
        exact ⟨_, row, q, 0, rfl, OV, R, G, fun _ => ⟨HSo.out, by omega⟩, fun h9 => absurd rfl h9⟩
  · obtain ⟨hnone, rfl⟩ := HF.out.1 he
    have HN := Lib.hid hnone
    have hed' : (e0 != 0) = true := by simp [he]
    have HE := Lib.hid he
    clear hnone he HF
    go_wp2_with fail
    refine wp_loop_rounds 1 ?_
    rw [rounds_succ]
    go_wp2_with fail
    refine (reader_Why _ g _ n c L _ e0 R1).mono ?_
    rintro e w3 ⟨rfl, rfl⟩
    go_wp2_with fail
    go_ret
    exact ⟨_, [], _, e0, rfl, OwnI.nil_ _ _, R1, g1, fun h9 => absurd h9 HE.out, fun _ => ⟨rfl, HN.out⟩⟩
end Go.Proofs.Ytfebncpfhdgkpaa
