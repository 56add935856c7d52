/- Contract of wire.Reader's Num: the number that the bytes begin with, or the fault. -/
import Derived.Test.YtedegdojbhegdaaRdr
namespace Go.Proofs.Ytedegdojbhegdaa
open Go.RowKit Go.Sort

theorem i64_or_low (a b : Nat) (ha : a < 36028797018963968) (hb : b < 128) : bits .or .i64 (((a * 128 : Nat)) : Int) (b : Int) = ((a * 128 + b : Nat) : Int) := by
  show IntKind.i64.wrap ((BitVec.ofInt 64 ((a * 128 : Nat) : Int) ||| BitVec.ofInt 64 (b : Int)).toNat : Int) = _
  rw [BitVec.toNat_or, ofInt_i64 _ (by omega), ofInt_i64 b (by omega)]
  have e : a * 128 ||| b = a * 128 + b := by
    have h := Nat.two_pow_add_eq_or_of_lt (i := 7) hb a
    rw [Nat.mul_comm] at h
    simpa using h.symm
  rw [e, IntKind.wrap_i64]
  omega
theorem u8_and_127 : ∀ x : Nat, x < 256 → bits .and .u8 (x : Int) 127 = ((x % 128 : Nat) : Int) := by decide +kernel

/-- While the bytes are read: so many are read, with such a value; or a fault is laid. -/
def NumRel (w : World) (g : Nat) (n k0 : Nat) (L : List UInt8) (v3 v4 : Value) (wr : World) : Prop :=
  ∃ (i a : Nat), v3 = .int .i64 a ∧ v4 = .int .i64 i ∧
    ((w = wr ∧ k0 ≤ i ∧ i ≤ n ∧ rnum (L.drop k0) = rnumF (L.drop i) (i - k0) a ∧ a < 4611686018427387904) ∨
     (∃ e : Int, e ≠ 0 ∧ i ≤ n + 1 ∧ wr = w.setCell ⟨g, 2, none⟩ (.int .i64 e) ∧ rnum (L.drop k0) = (0, 0, e)))

set_option maxRecDepth 100000 in
set_option maxHeartbeats 2000000 in
theorem reader_Num (u1 : World) (g : Nat) (A : Option Addr) (n c : Nat) (L : List UInt8) (k : Nat) (why : Int) (h : Rd u1 g A n c L k why) :
    Calls Try.prog 39 #[.pointer (some ⟨g, 0, none⟩)] u1 (RdTo u1 g A n c L (.int .i64 (rNum (L.drop k) why).1) (k + (rNum (L.drop k) why).2.1) (rNum (L.drop k) why).2.2) := by
  have hc := h.blk.cell
  by_cases hw : why = 0
  · subst hw
    unfold rNum
    rw [if_pos rfl]
    have H := Lib.hid h
    have hkn := h.kn
    have hnm := h.nm
    have hnc := h.nc
    have HL := Lib.hid h.len
    clear h
    go_enter Try.func39, Try.ntmps39
    go_wp2
    go_loopw [3, 4] (fun v3 v4 wr => NumRel u1 g n k L v3 v4 wr) (fun _ v4 _ => n + 1 - (intOf v4).toNat)
    case atStart => exact ⟨k, 0, rfl, rfl, .inl ⟨rfl, Nat.le_refl _, hkn, by rw [Nat.sub_self]; rfl, by omega⟩⟩
    case round =>
      obtain ⟨i, a, rfl, rfl, hcase⟩ := hrel
      rcases hcase with ⟨rfl, hki, hin, heq, ha⟩ | ⟨e, he, hin, rfl, heq⟩
      · by_cases hend : i < n
        · have hil : i < L.length := by rw [HL.out]; exact hend
          rw [List.drop_eq_getElem_cons hil, rnumF_cons] at heq
          obtain ⟨b, o, rfl, hb, hcell⟩ := H.out.rds.form (by omega)
          have hx := hcell i _ (by rw [List.getElem?_map, List.getElem?_eq_getElem hil]; rfl)
          unfold vb at hx
          have hx256 : L[i].toNat < 256 := UInt8.toNat_lt _
          generalize L[i].toNat = x at hx hx256 heq
          have HQ := Lib.hid heq
          clear heq hcell hil
          by_cases hbad : (i - k = 0 ∧ x = 128) ∨ 36028797018963968 ≤ a
          · have S : Hid (NumRel u1 g n k L (.int .i64 a) (.int .i64 ((i : Int) + 1)) (u1.setCell ⟨g, 2, none⟩ (.int .i64 31))) := Lib.hid (by
              refine ⟨i + 1, a, rfl, by go_num, .inr ⟨31, by decide, by omega, rfl, ?_⟩⟩
              rw [HQ.out, if_pos hbad])
            have hcase : (i = k ∧ ((x : Int) == 128) = true) ∨ (i = k ∧ ((x : Int) == 128) = false ∧ decide (36028797018963968 ≤ (a : Int)) = true) ∨ (((i : Int) == k) = false ∧ decide (36028797018963968 ≤ (a : Int)) = true) := by simp; omega
            clear hbad HQ
            rcases hcase with ⟨rfl, h2⟩ | ⟨rfl, h2, h3⟩ | ⟨h1, h3⟩
            all_goals
              go_wp2_with (go_at_call 42; refine (reader_Fail _ g _ n c L _ 0 31 H.out).mono ?_; rintro e w' ⟨rfl, rfl⟩; rw [if_pos rfl])
              go_roundw
              case rel => exact S.out
              case measure => simp [intOf]; omega
          · have hgood : (i ≠ k ∨ x ≠ 128) ∧ a < 36028797018963968 := by omega
            have hcase : (((i : Int) == k) = false ∨ (i = k ∧ ((x : Int) == 128) = false)) := by simp; omega
            have ha2 := hgood.2
            have hdb : decide (36028797018963968 ≤ (a : Int)) = false := by simp; omega
            have hnb := Lib.hid hbad
            clear hbad hgood
            by_cases hlo : x < 128
            · have hor : bits .or .i64 ((a : Int) * 128) (x : Int) = (a : Int) * 128 + x := by simpa using i64_or_low a x ha2 hlo
              have R : Hid (RdTo u1 g (some ⟨b, o, none⟩) n c L (.int .i64 (rnum (L.drop k)).1) (k + (rnum (L.drop k)).2.1) (rnum (L.drop k)).2.2 (.returned (.int .i64 ((a * 128 + x : Nat) : Int))) (u1.setCell ⟨g, 1, none⟩ (.int .i64 ((i : Int) + 1)))) := Lib.hid (by
                rw [HQ.out, if_neg hnb.out, if_pos hlo]
                have e1 : (k + (i - k + 1)) = i + 1 := by omega
                have e2 : ((i : Int) + 1) = ((i + 1 : Nat) : Int) := by omega
                simp only []
                rw [e1, e2]
                exact ⟨rfl, H.out.at_ _ (by omega), only_set _ _ _ _⟩)
              have hf := H.out.blk.frozen 1
              clear HQ hnb
              rcases hcase with h1 | ⟨rfl, h1⟩
              all_goals
                go_wp2
                go_ret
                simpa using R.out
            · have hor : bits .or .i64 ((a : Int) * 128) ((x : Int) % 128) = (a : Int) * 128 + (x : Int) % 128 := by simpa using i64_or_low a (x % 128) ha2 (Nat.mod_lt _ (by decide))
              have hand : bits .and .u8 (x : Int) 127 = (x : Int) % 128 := by simpa using u8_and_127 x hx256
              have S : Hid (NumRel u1 g n k L (.int .i64 ((a : Int) * 128 + (x : Int) % 128)) (.int .i64 ((i : Int) + 1)) u1) := Lib.hid (by
                refine ⟨i + 1, a * 128 + x % 128, by congr 1, by go_num, .inl ⟨rfl, by omega, by omega, ?_, by omega⟩⟩
                rw [HQ.out, if_neg hnb.out, if_neg hlo]
                congr 1
                omega)
              clear HQ hnb
              rcases hcase with h1 | ⟨rfl, h1⟩
              all_goals
                go_wp2
                go_roundw
                case rel => exact S.out
                case measure => simp [intOf]; omega
        · have hni : i = n := by omega
          have hr : rnum (L.drop k) = (0, 0, 30) := by
            rw [heq, List.drop_eq_nil_of_le (by rw [HL.out]; omega)]
            rfl
          have S : Hid (NumRel u1 g n k L (.int .i64 a) (.int .i64 ((i : Int) + 1)) (u1.setCell ⟨g, 2, none⟩ (.int .i64 30))) := Lib.hid
            ⟨i + 1, a, rfl, by go_num, .inr ⟨30, by decide, by omega, rfl, hr⟩⟩
          clear heq hr hni
          go_wp2_with (go_at_call 42; refine (reader_Fail _ g _ n c L _ 0 30 H.out).mono ?_; rintro e w' ⟨rfl, rfl⟩; rw [if_pos rfl])
          go_roundw
          case rel => exact S.out
          case measure => simp [intOf]; omega
      · have hb : (e == 0) = false := by simp [he]
        have hc' := (H.out.fail e).blk.cell
        have F : Hid (RdTo u1 g A n c L (.int .i64 (rnum (L.drop k)).1) (k + (rnum (L.drop k)).2.1) (rnum (L.drop k)).2.2 (.returned (.int .i64 0)) (u1.setCell ⟨g, 2, none⟩ (.int .i64 e))) := Lib.hid (by
          rw [heq]
          exact ⟨rfl, H.out.fail e, only_set _ _ _ _⟩)
        clear heq he hc
        go_wp2
        go_ret
        exact F.out
  · have hb : (why == 0) = false := by simp [hw]
    have F : Hid (RdTo u1 g A n c L (.int .i64 (rNum (L.drop k) why).1) (k + (rNum (L.drop k) why).2.1) (rNum (L.drop k) why).2.2 (.returned (.int .i64 0)) u1) := Lib.hid (by
      unfold rNum
      rw [if_neg hw]
      exact ⟨rfl, h, grown_refl _ _⟩)
    clear h hw
    go_enter Try.func39, Try.ntmps39
    go_wp2
    refine wp_loop_rounds 1 ?_
    rw [rounds_succ]
    go_wp2
    go_ret
    exact F.out
end Go.Proofs.Ytedegdojbhegdaa
