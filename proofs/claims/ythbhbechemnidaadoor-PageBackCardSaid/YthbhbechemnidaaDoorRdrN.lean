/- Contract of wire.Reader's Num: the number that the bytes begin with, or the fault. Contracts of wire.Reader's Count and End. Contracts of wire.Reader's Text. -/
import Derived.Test.YthbhbechemnidaaDoorRdr
namespace Go.Proofs.YthbhbechemnidaaDoor
open Go.RowKit Go.Sort

theorem i64_or_low (a b : Nat) (ha : a < 36028797018963968) (hb : b < 128) : bits .or .i64 (((a * 128 : Nat)) : Int) (b : Int) = ((a * 128 + b : Nat) : Int) := by
  show IntKind.i64.wrap ((BitVec.ofInt 64 ((a * 128 : Nat) : Int) ||| BitVec.ofInt 64 (b : Int)).toNat : Int) = _
  rw [BitVec.toNat_or, ofInt_i64 _ (by omega), ofInt_i64 b (by omega)]
  have e : a * 128 ||| b = a * 128 + b := by
    have h := Nat.two_pow_add_eq_or_of_lt (i := 7) hb a
    rw [Nat.mul_comm] at h
    simpa using h.symm
  rw [e, IntKind.wrap_i64]
  omega
theorem u8_and_127 : ∀ x : Nat, x < 256 → bits .and .u8 (x : Int) 127 = ((x % 128 : Nat) : Int) := by decide +kernel

/-- While the bytes are read: so many are read, with such a value; or a fault is laid. -/
def NumRel (w : World) (g : Nat) (n k0 : Nat) (L : List UInt8) (v3 v4 : Value) (wr : World) : Prop :=
  ∃ (i a : Nat), v3 = .int .i64 a ∧ v4 = .int .i64 i ∧
    ((w = wr ∧ k0 ≤ i ∧ i ≤ n ∧ rnum (L.drop k0) = rnumF (L.drop i) (i - k0) a ∧ a < 4611686018427387904) ∨
     (∃ e : Int, e ≠ 0 ∧ i ≤ n + 1 ∧ wr = w.setCell ⟨g, 2, none⟩ (.int .i64 e) ∧ rnum (L.drop k0) = (0, 0, e)))

set_option maxRecDepth 100000 in
set_option maxHeartbeats 2000000 in
theorem reader_Num (u1 : World) (g : Nat) (A : Option Addr) (n c : Nat) (L : List UInt8) (k : Nat) (why : Int) (h : Rd u1 g A n c L k why) :
    Calls Tryd.prog 89 #[.pointer (some ⟨g, 0, none⟩)] u1 (RdTo u1 g A n c L (.int .i64 (rNum (L.drop k) why).1) (k + (rNum (L.drop k) why).2.1) (rNum (L.drop k) why).2.2) := by
  have hc := h.blk.cell
  by_cases hw : why = 0
  · subst hw
    unfold rNum
    rw [if_pos rfl]
    have H := Lib.hid h
    have hkn := h.kn
    have hnm := h.nm
    have hnc := h.nc
    have HL := Lib.hid h.len
    clear h
    go_enter Tryd.func89, Tryd.ntmps89
    go_wp2
    go_loopw [3, 4] (fun v3 v4 wr => NumRel u1 g n k L v3 v4 wr) (fun _ v4 _ => n + 1 - (intOf v4).toNat)
    case atStart => exact ⟨k, 0, rfl, rfl, .inl ⟨rfl, Nat.le_refl _, hkn, by rw [Nat.sub_self]; rfl, by omega⟩⟩
    case round =>
      obtain ⟨i, a, rfl, rfl, hcase⟩ := hrel
      rcases hcase with ⟨rfl, hki, hin, heq, ha⟩ | ⟨e, he, hin, rfl, heq⟩
      · by_cases hend : i < n
        · have hil : i < L.length := by rw [HL.out]; exact hend
          rw [List.drop_eq_getElem_cons hil, rnumF_cons] at heq
          obtain ⟨b, o, rfl, hb, hcell⟩ := H.out.rds.form (by omega)
          have hx := hcell i _ (by rw [List.getElem?_map, List.getElem?_eq_getElem hil]; rfl)
          unfold vb at hx
          have hx256 : L[i].toNat < 256 := UInt8.toNat_lt _
          generalize L[i].toNat = x at hx hx256 heq
          have HQ := Lib.hid heq
          clear heq hcell hil
          by_cases hbad : (i - k = 0 ∧ x = 128) ∨ 36028797018963968 ≤ a
          · have S : Hid (NumRel u1 g n k L (.int .i64 a) (.int .i64 ((i : Int) + 1)) (u1.setCell ⟨g, 2, none⟩ (.int .i64 31))) := Lib.hid (by
              refine ⟨i + 1, a, rfl, by go_num, .inr ⟨31, by decide, by omega, rfl, ?_⟩⟩
              rw [HQ.out, if_pos hbad])
            have hcase : (i = k ∧ ((x : Int) == 128) = true) ∨ (i = k ∧ ((x : Int) == 128) = false ∧ decide (36028797018963968 ≤ (a : Int)) = true) ∨ (((i : Int) == k) = false ∧ decide (36028797018963968 ≤ (a : Int)) = true) := by simp; omega
            clear hbad HQ
            rcases hcase with ⟨rfl, h2⟩ | ⟨rfl, h2, h3⟩ | ⟨h1, h3⟩
            all_goals
              go_wp2_with (go_at_call 92; refine (reader_Fail _ g _ n c L _ 0 31 H.out).mono ?_; rintro e w' ⟨rfl, rfl⟩; rw [if_pos rfl])
              go_roundw
              case rel => exact S.out
              case measure => simp [intOf]; omega
          · have hgood : (i ≠ k ∨ x ≠ 128) ∧ a < 36028797018963968 := by omega
            have hcase : (((i : Int) == k) = false ∨ (i = k ∧ ((x : Int) == 128) = false)) := by simp; omega
            have ha2 := hgood.2
            have hdb : decide (36028797018963968 ≤ (a : Int)) = false := by simp; omega
            have hnb := Lib.hid hbad
            clear hbad hgood
            by_cases hlo : x < 128
            · have hor : bits .or .i64 ((a : Int) * 128) (x : Int) = (a : Int) * 128 + x := by simpa using i64_or_low a x ha2 hlo
              have R : Hid (RdTo u1 g (some ⟨b, o, none⟩) n c L (.int .i64 (rnum (L.drop k)).1) (k + (rnum (L.drop k)).2.1) (rnum (L.drop k)).2.2 (.returned (.int .i64 ((a * 128 + x : Nat) : Int))) (u1.setCell ⟨g, 1, none⟩ (.int .i64 ((i : Int) + 1)))) := Lib.hid (by
                rw [HQ.out, if_neg hnb.out, if_pos hlo]
                have e1 : (k + (i - k + 1)) = i + 1 := by omega
                have e2 : ((i : Int) + 1) = ((i + 1 : Nat) : Int) := by omega
                simp only []
                rw [e1, e2]
                exact ⟨rfl, H.out.at_ _ (by omega), only_set _ _ _ _⟩)
              have hf := H.out.blk.frozen 1
              clear HQ hnb
              rcases hcase with h1 | ⟨rfl, h1⟩
              all_goals
                go_wp2
                go_ret
                simpa using R.out
            · have hor : bits .or .i64 ((a : Int) * 128) ((x : Int) % 128) = (a : Int) * 128 + (x : Int) % 128 := by simpa using i64_or_low a (x % 128) ha2 (Nat.mod_lt _ (by decide))
              have hand : bits .and .u8 (x : Int) 127 = (x : Int) % 128 := by simpa using u8_and_127 x hx256
              have S : Hid (NumRel u1 g n k L (.int .i64 ((a : Int) * 128 + (x : Int) % 128)) (.int .i64 ((i : Int) + 1)) u1) := Lib.hid (by
                refine ⟨i + 1, a * 128 + x % 128, by congr 1, by go_num, .inl ⟨rfl, by omega, by omega, ?_, by omega⟩⟩
                rw [HQ.out, if_neg hnb.out, if_neg hlo]
                congr 1
                omega)
              clear HQ hnb
              rcases hcase with h1 | ⟨rfl, h1⟩
              all_goals
                go_wp2
                go_roundw
                case rel => exact S.out
                case measure => simp [intOf]; omega
        · have hni : i = n := by omega
          have hr : rnum (L.drop k) = (0, 0, 30) := by
            rw [heq, List.drop_eq_nil_of_le (by rw [HL.out]; omega)]
            rfl
          have S : Hid (NumRel u1 g n k L (.int .i64 a) (.int .i64 ((i : Int) + 1)) (u1.setCell ⟨g, 2, none⟩ (.int .i64 30))) := Lib.hid
            ⟨i + 1, a, rfl, by go_num, .inr ⟨30, by decide, by omega, rfl, hr⟩⟩
          clear heq hr hni
          go_wp2_with (go_at_call 92; refine (reader_Fail _ g _ n c L _ 0 30 H.out).mono ?_; rintro e w' ⟨rfl, rfl⟩; rw [if_pos rfl])
          go_roundw
          case rel => exact S.out
          case measure => simp [intOf]; omega
      · have hb : (e == 0) = false := by simp [he]
        have hc' := (H.out.fail e).blk.cell
        have F : Hid (RdTo u1 g A n c L (.int .i64 (rnum (L.drop k)).1) (k + (rnum (L.drop k)).2.1) (rnum (L.drop k)).2.2 (.returned (.int .i64 0)) (u1.setCell ⟨g, 2, none⟩ (.int .i64 e))) := Lib.hid (by
          rw [heq]
          exact ⟨rfl, H.out.fail e, only_set _ _ _ _⟩)
        clear heq he hc
        go_wp2
        go_ret
        exact F.out
  · have hb : (why == 0) = false := by simp [hw]
    have F : Hid (RdTo u1 g A n c L (.int .i64 (rNum (L.drop k) why).1) (k + (rNum (L.drop k) why).2.1) (rNum (L.drop k) why).2.2 (.returned (.int .i64 0)) u1) := Lib.hid (by
      unfold rNum
      rw [if_neg hw]
      exact ⟨rfl, h, grown_refl _ _⟩)
    clear h hw
    go_enter Tryd.func89, Tryd.ntmps89
    go_wp2
    refine wp_loop_rounds 1 ?_
    rw [rounds_succ]
    go_wp2
    go_ret
    exact F.out
end Go.Proofs.YthbhbechemnidaaDoor

namespace Go.Proofs.YthbhbechemnidaaDoor
open Go.RowKit Go.Sort

set_option maxRecDepth 100000 in
set_option maxHeartbeats 1000000 in
theorem reader_Count (w : World) (g : Nat) (A : Option Addr) (n c : Nat) (L : List UInt8) (k : Nat) (why most : Int) (h : Rd w g A n c L k why) :
    Calls Tryd.prog 91 #[.pointer (some ⟨g, 0, none⟩), .int .i64 most] w (RdTo w g A n c L (.int .i64 (rCount (L.drop k) most why).1) (k + (rCount (L.drop k) most why).2.1) (rCount (L.drop k) most why).2.2) := by
  obtain ⟨f1, f2, f3⟩ := rNum_facts (L.drop k) why
  have hlen := h.len
  have hkn := h.kn
  have hc := h.blk.cell
  have hN := reader_Num w g A n c L k why h
  unfold rCount
  obtain ⟨v, m, e0, hq⟩ : ∃ v m e0, rNum (L.drop k) why = (v, m, e0) := ⟨_, _, _, rfl⟩
  rw [hq] at hN f1 f2 f3 ⊢
  simp only [] at hN f1 f2 f3 ⊢
  clear hq
  by_cases he : e0 = 0
  · subst he
    clear f3
    by_cases hm : most < v
    · rw [if_pos ⟨rfl, hm⟩]
      have hmd : decide (most < (v : Int)) = true := by simp; omega
      go_enter Tryd.func91, Tryd.ntmps91
      go_wp2_with fail
      refine hN.mono ?_
      rintro e w1 ⟨rfl, R1, g1⟩
      have hc1 := R1.blk.cell
      clear hc
      go_wp2_with fail
      refine (reader_Fail _ g _ n c L _ 0 31 R1).mono ?_
      rintro e w2 ⟨rfl, rfl⟩
      rw [if_pos rfl]
      have hf2 := (R1.fail 31).blk.frozen 1
      have hc2 := (R1.fail 31).blk.cell
      clear hc1
      go_wp2_with fail
      go_ret
      exact ⟨rfl, (R1.fail 31).at_ k hkn, grown_trans' (grown_trans' g1 (only_set _ _ _ _)) (only_set _ _ _ _)⟩
    · rw [if_neg (fun hx => hm hx.2)]
      have hmd : decide (most < (v : Int)) = false := by simp; omega
      go_enter Tryd.func91, Tryd.ntmps91
      go_wp2_with fail
      refine hN.mono ?_
      rintro e w1 ⟨rfl, R1, g1⟩
      have hc1 := R1.blk.cell
      clear hc
      go_wp2_with fail
      go_ret
      exact ⟨rfl, R1, g1⟩
  · have hed : (e0 == 0) = false := by simp [he]
    have hed' : (e0 != 0) = true := by simp [he]
    obtain ⟨rfl, rfl⟩ := f3 he
    rw [if_neg (fun hx => he hx.1)]
    go_enter Tryd.func91, Tryd.ntmps91
    go_wp2_with fail
    refine hN.mono ?_
    rintro e w1 ⟨rfl, R1, g1⟩
    have hc1 := R1.blk.cell
    have hf1 := R1.blk.frozen 1
    clear hc he
    go_wp2_with fail
    go_ret
    exact ⟨rfl, R1.at_ k hkn, grown_trans' g1 (only_set _ _ _ _)⟩

/-- The fault at the end of a reading. -/
def rEnd (left : Nat) (why : Int) : Int := if 0 < left ∧ why = 0 then 31 else why
end Go.Proofs.YthbhbechemnidaaDoor

namespace Go.Proofs.YthbhbechemnidaaDoor
open Go.RowKit Go.Sort

theorem RdTo.of_grown {w w1 w2 : World} {g n c k : Nat} {A : Option Addr} {L : List UInt8} {v : Value} {why : Int} {e : Ending} (h1 : w.grownBy w1 (some g)) (h2 : RdTo w1 g A n c L v k why e w2) : RdTo w g A n c L v k why e w2 :=
  ⟨h2.1, h2.2.1, grown_trans' h1 h2.2.2⟩

/-- string(r.b[lo:hi]): a part of the bytes that are read, as a text. -/
theorem text_of_part (w : World) (b o n c lo v : Nat) (li hi : Int) (eli : li = (lo : Int)) (ehi : hi = ((lo + v : Nat) : Int)) (h1 : lo + v ≤ n) (h2 : n ≤ c) (L : List UInt8) (hl : L.length = n)
    (hc : ∀ j u, (L.map vb)[j]? = some u → w.cell? ⟨b, o + j, none⟩ = some u) :
    ∀ j, (convert 52 9 (.slice (if c = li.toNat then some ⟨b, o, none⟩ else some ⟨b, o + li.toNat, none⟩) (hi.toNat - li.toNat) (c - li.toNat))).run Tryd.prog (w.drewN j) = .ok (.string ⟨((L.drop lo).take v).toArray⟩) (w.drewN j) := by
  subst eli ehi
  have e1 : ((lo + v : Nat) : Int).toNat = lo + v := by omega
  have e2 : ((lo : Nat) : Int).toNat = lo := by omega
  rw [e1, e2, Nat.add_sub_cancel_left]
  intro j
  have hlen : ((L.drop lo).take v).length = v := by rw [List.length_take, List.length_drop]; omega
  by_cases h0 : c = lo
  · have hv : v = 0 := by omega
    subst hv
    rw [if_pos h0]
    exact run_convert_bytes_back (P := Tryd.prog) (w.drewN j) 52 9 5 ⟨b, o, none⟩ (c - lo) [] Tryd.underlying52 Tryd.underlying5 Tryd.underlying9 (fun j hj => by simp at hj)
  · rw [if_neg h0]
    have h := run_convert_bytes_back (P := Tryd.prog) (w.drewN j) 52 9 5 ⟨b, o + lo, none⟩ (c - lo) ((L.drop lo).take v) Tryd.underlying52 Tryd.underlying5 Tryd.underlying9 (fun i hi => by
      rw [add_lit]
      show w.cell? _ = _
      have e := hc (lo + i) (.int .u8 ((((L.drop lo).take v)[i]).toNat : Int)) (by
        rw [List.getElem_take, List.getElem_drop, List.getElem?_map, List.getElem?_eq_getElem]
        rfl)
      rw [Nat.add_assoc]
      exact e)
    rw [hlen] at h
    exact h
theorem rNum_pos (l : List UInt8) (why : Int) (h : (rNum l why).2.2 = 0) : 0 < l.length := by
  cases l with
  | nil =>
    unfold rNum rnum rnumF at h
    split at h
    · simp at h
    · simp at h; contradiction
  | cons a r => simp
set_option maxRecDepth 100000 in
set_option maxHeartbeats 2000000 in
theorem reader_Text (w : World) (g : Nat) (A : Option Addr) (n c : Nat) (L : List UInt8) (k : Nat) (why most : Int) (h : Rd w g A n c L k why) :
    Calls Tryd.prog 88 #[.pointer (some ⟨g, 0, none⟩), .int .i64 most] w (RdTo w g A n c L (.string ⟨(rText (L.drop k) most why).1.toArray⟩) (k + (rText (L.drop k) most why).2.1) (rText (L.drop k) most why).2.2) := by
  obtain ⟨f1, f2, f3⟩ := rNum_facts (L.drop k) why
  have hlen := h.len
  have hkn := h.kn
  have hnm := h.nm
  have hnc := h.nc
  have hc := h.blk.cell
  have hN := reader_Num w g A n c L k why h
  unfold rText
  obtain ⟨v, m, e0, hq⟩ : ∃ v m e0, rNum (L.drop k) why = (v, m, e0) := ⟨_, _, _, rfl⟩
  rw [hq] at hN f1 f2 f3 ⊢
  simp only [] at hN f1 f2 f3 ⊢
  rw [List.length_drop, hlen] at f2
  have hq0 := hq
  clear hq
  by_cases he : e0 = 0
  · subst he
    simp only [ne_eq, not_true_eq_false, if_false, List.length_drop, hlen]
    clear f3
    by_cases hm : most < v
    · rw [if_pos hm]
      go_enter Tryd.func88, Tryd.ntmps88
      go_wp2_with fail
      refine hN.mono ?_
      rintro e w1 ⟨rfl, R1, g1⟩
      have hc1 := R1.blk.cell
      clear hc
      have hmd : decide (most < (v : Int)) = true := by simp; omega
      go_wp2_with fail
      refine (reader_Fail _ g _ n c L _ 0 31 R1).mono ?_
      rintro e w2 ⟨rfl, rfl⟩
      rw [if_pos rfl]
      have hf2 := (R1.fail 31).blk.frozen 1
      have hc2 := (R1.fail 31).blk.cell
      go_wp2
      go_ret
      exact ⟨rfl, (R1.fail 31).at_ k hkn, grown_trans' (grown_trans' g1 (only_set _ _ _ _)) (only_set _ _ _ _)⟩
    · rw [if_neg hm]
      have hmd : decide (most < (v : Int)) = false := by simp; omega
      by_cases hl : n - k - m < v
      · rw [if_pos hl]
        go_enter Tryd.func88, Tryd.ntmps88
        go_wp2_with fail
        refine hN.mono ?_
        rintro e w1 ⟨rfl, R1, g1⟩
        have hc1 := R1.blk.cell
        clear hc
        go_wp2_with fail
        refine (reader_Left _ g _ n c L _ 0 R1).mono ?_
        rintro e w2 ⟨rfl, dm, rfl⟩
        have hld : decide (((n - (k + m) : Nat) : Int) < (v : Int)) = true := by simp; omega
        have hc2 := (R1.drewN dm).blk.cell
        go_wp2_with fail
        refine (reader_Fail _ g _ n c L _ 0 30 (R1.drewN dm)).mono ?_
        rintro e w2 ⟨rfl, rfl⟩
        rw [if_pos rfl]
        have hf2 := ((R1.drewN dm).fail 30).blk.frozen 1
        have hc2 := ((R1.drewN dm).fail 30).blk.cell
        go_wp2
        go_ret
        exact ⟨rfl, ((R1.drewN dm).fail 30).at_ k hkn, grown_trans' (grown_trans' (grown_trans' g1 (grown_drewN _ _ _)) (only_set _ _ _ _)) (only_set _ _ _ _)⟩
      · rw [if_neg hl]
        have hn0 : 0 < n := by
          have h0 := rNum_pos (L.drop k) why (by rw [hq0])
          rw [List.length_drop, hlen] at h0
          omega
        obtain ⟨b, o, rfl, hb, _⟩ := h.rds.form hn0
        have hld : decide (((n - (k + m) : Nat) : Int) < (v : Int)) = false := by simp; omega
        go_enter Tryd.func88, Tryd.ntmps88
        go_wp2_with fail
        refine hN.mono ?_
        rintro e w1 ⟨rfl, R1, g1⟩
        have hc1 := R1.blk.cell
        clear hc
        go_wp2_with fail
        refine (reader_Left _ g _ n c L _ 0 R1).mono ?_
        rintro e w2 ⟨rfl, dm, rfl⟩
        have hc2 := (R1.drewN dm).blk.cell
        have hf2 := (R1.drewN dm).blk.frozen 1
        have R2 := (R1.drewN dm).at_ (k + m + v) (by omega)
        have hc3 : ∀ j i, (((w1.drewN dm).setCell ⟨g, 1, none⟩ (.int .i64 ((k : Int) + m + v))).drewN j).cell? ⟨g, i, none⟩ = (#[.slice (some ⟨b, o, none⟩) n c, .int .i64 ((k : Int) + m + v), .int .i64 0] : Array Value)[i]? := fun j i => by simpa using (R2.drewN j).blk.cell i
        have hw : IntKind.i64.wrap ((k : Int) + m) = (k : Int) + m := by rw [IntKind.wrap_i64]; omega
        have HR2 := Lib.hid R2
        have s1 : 0 ≤ (k : Int) + m + v := by omega
        have s2 : (k : Int) + m + v ≤ c := by omega
        have s3 : 0 ≤ (k : Int) + m := by omega
        have s4 : (k : Int) + m ≤ max ((k : Int) + m + v) 0 := by omega
        obtain ⟨hlR, hcR⟩ : L.length = n ∧ ∀ j u, (L.map vb)[j]? = some u → ((w1.drewN dm).setCell ⟨g, 1, none⟩ (.int .i64 ((k : Int) + m + v))).cell? ⟨b, o + j, none⟩ = some u := ⟨hlen, by
          obtain ⟨b', o', hAe, _, hcell⟩ := R2.rds.form hn0
          injection hAe with hAe
          injection hAe with e1 e2
          subst e1 e2
          simpa using hcell⟩
        have hcv := text_of_part _ b o n c (k + m) v ((k : Int) + m) ((k : Int) + m + v) (by omega) (by omega) (by omega) hnc L hlR hcR
        have HG := Lib.hid (grown_trans' (grown_trans' g1 (grown_drewN w1 dm _)) (only_set (w1.drewN dm) g 1 (.int .i64 ((k + m + v : Nat) : Int))))
        clear hN hq0 R1 R2 g1 h
        go_wp2
        go_quiet (fail)
        go_wp2
        all_goals
          go_ret
          refine ⟨rfl, ?_, ?_⟩
          · have e : k + (m + v) = k + m + v := by omega
            rw [e]
            have hh := HR2.out.drewN nq
            first
            | simpa using hh
            | (rw [← (by assumption : c = ((k : Int) + m).toNat)]; simpa using hh)
          · simpa using grown_trans' HG.out (grown_drewN _ nq _)
  · have hed : (e0 == 0) = false := by simp [he]
    obtain ⟨rfl, rfl⟩ := f3 he
    rw [if_pos he]
    go_enter Tryd.func88, Tryd.ntmps88
    go_wp2_with fail
    refine hN.mono ?_
    rintro e w1 ⟨rfl, R1, g1⟩
    have hc1 := R1.blk.cell
    have hf1 := R1.blk.frozen 1
    clear hc he
    go_wp2
    go_ret
    exact ⟨rfl, R1.at_ k hkn, grown_trans' g1 (only_set _ _ _ _)⟩
end Go.Proofs.YthbhbechemnidaaDoor
