/- The walk of the law StepMany. -/
import Derived.Test.YtimmfcbpdnlfjaaDoorStepLinesWalk
import Derived.Test.YtimmfcbpdnlfjaaDoorStpN
namespace Go.Proofs.YtimmfcbpdnlfjaaDoor
open Go.RowKit Go.Sort
set_option linter.unusedVariables false
set_option linter.unusedSimpArgs false

def tellS : Stp := bareK 17
def tellW : List UInt8 := [116, 101, 108, 108, 32, 48]
def preT (q : Nat) : List UInt8 := (List.replicate q ([32, 10] : List UInt8)).flatten
def tellT (k : Nat) : List UInt8 := (List.replicate k (tellW ++ [10])).flatten
theorem line_tell : lineP tellS = tellW := by
  have h0 : numW 0 = [48] := by
    rw [show (0 : Int) = ((0 : Nat) : Int) from rfl, numW_dec 0 (by omega), dec_lo 0 (by omega)]
    rfl
  have hb : bareB tellS [.n] = true := bareK_bare 17 [.n]
  have hf : formP tellS.kind = ([116, 101, 108, 108], [.n]) := rfl
  have ht1 : tellP tellS .n = [48] := h0
  unfold lineP
  rw [hf]
  dsimp only
  rw [if_neg (by rw [hb]; simp), tells_some tellS [.n] (by simp [ht1])]
  simp [joinF, ht1, tellW]
theorem preT_snoc (q : Nat) : preT (q + 1) = preT q ++ [32, 10] := by
  unfold preT
  rw [List.replicate_succ', List.flatten_append]
  rfl
theorem tellT_snoc (k : Nat) : tellT (k + 1) = tellT k ++ (tellW ++ [10]) := by
  unfold tellT
  rw [List.replicate_succ', List.flatten_append]
  rfl
theorem preT_len (q : Nat) : (preT q).length = 2 * q := by
  induction q with
  | zero => rfl
  | succ q ih => rw [preT_snoc, List.length_append, ih]; simp; omega
theorem tellT_len (k : Nat) : (tellT k).length = 7 * k := by
  induction k with
  | zero => rfl
  | succ k ih => rw [tellT_snoc, List.length_append, ih]; simp [tellW]; omega
theorem lines_tell : ∀ k, linesP (tellT k) = List.replicate k tellW
  | 0 => rfl
  | k + 1 => by
    have e : tellT (k + 1) = tellW ++ 10 :: tellT k := by
      unfold tellT
      rw [List.replicate_succ, List.flatten_cons, List.append_assoc]
      rfl
    rw [e, linesP_line _ _ (by decide), lines_tell k, List.replicate_succ]
theorem lines_pre (r : List UInt8) : ∀ q, linesP (preT q ++ r) = List.replicate q [32] ++ linesP r
  | 0 => rfl
  | q + 1 => by
    have e : preT (q + 1) ++ r = [32] ++ 10 :: (preT q ++ r) := by
      unfold preT
      rw [List.replicate_succ, List.flatten_cons]
      simp
    rw [e, linesP_line _ _ (by decide), lines_pre r q, List.replicate_succ]
    rfl
theorem parse_skip (ls : List (List UInt8)) (out : List Stp) : ∀ (q i : Nat), parseL (List.replicate q [32] ++ ls) i out = parseL ls (i + q) out
  | 0, i => rfl
  | q + 1, i => by
    rw [List.replicate_succ, List.cons_append, parseL_blank _ _ _ (by rw [wordsP_blank]; rfl), parse_skip ls out q (i + 1)]
    congr 1
    omega
theorem read_tell : readP tellW = some tellS := by
  rw [← line_tell]
  exact read_line_back tellS (by rw [line_tell]; simp [tellW])
theorem parse_rep (ls : List (List UInt8)) : ∀ (k i : Nat) (out : List Stp), out.length + k ≤ 300 → parseL (List.replicate k tellW ++ ls) i out = parseL ls (i + k) (out ++ List.replicate k tellS)
  | 0, i, out, _ => by simp
  | k + 1, i, out, h => by
    rw [List.replicate_succ, List.cons_append, parseL_some _ _ _ tellS (readP_words read_tell) read_tell (by omega), parse_rep ls k (i + 1) (out ++ [tellS]) (by rw [List.length_append]; simp; omega)]
    rw [List.replicate_succ, List.append_assoc]
    congr 1
    omega
theorem parse_many (q m : Nat) (hq : q ≤ 50) (hm : m ≤ 40) : parseP (preT q ++ tellT (300 + m)) = if m = 0 then (List.replicate 300 tellS, 0, true) else ([], q + 301, false) := by
  unfold parseP
  rw [if_neg (by rw [List.length_append, preT_len, tellT_len]; omega), lines_pre, lines_tell, parse_skip, List.replicate_append_replicate.symm, parse_rep _ 300 _ [] (by rw [List.length_nil]; omega)]
  by_cases h : m = 0
  · subst h
    rw [if_pos rfl, List.replicate_zero, List.nil_append]
    rfl
  · rw [if_neg h]
    obtain ⟨j, rfl⟩ := Nat.exists_eq_succ_of_ne_zero h
    rw [List.replicate_succ, parseL_full _ _ _ (readP_words read_tell) (by rw [List.nil_append, List.length_replicate]), show 0 + q + 300 + 1 = q + 301 by omega]
theorem text_many (m : Nat) (hm : m ≤ 40) : textO (List.replicate (300 + m) tellS) = if m = 0 then some (tellT 300) else none := by
  by_cases h : m = 0
  · subst h
    rw [if_pos rfl]
    have e : ∀ k, linesT (List.replicate k tellS) = tellT k := by
      intro k
      induction k with
      | zero => rfl
      | succ k ih => rw [List.replicate_succ', linesT_snoc, ih, line_tell, tellT_snoc]
    have e3 := e 300
    rw [textO_ok (by rw [List.length_replicate]; omega) (fun s hs => by rw [List.eq_of_mem_replicate hs, line_tell]; simp [tellW]) (by rw [e3, tellT_len]; omega), e3]
  · rw [if_neg h]
    exact textO_many (by rw [List.length_replicate]; omega)

set_option maxRecDepth 100000 in
set_option maxHeartbeats 4000000 in
theorem step_many_walk (w : World) (hT : Tabs w) (a : Int) (ha : (Lit.int .i64 a).wf = true) (b : Int) (hb : (Lit.int .i64 b).wf = true) :
    Calls Tryd.prog 6 #[.int .i64 a, .int .i64 b] w fun e w' => e = .returned (.bool true) ∧ Below w.heap.size w w' := by
  have HT := Lib.hid hT
  clear hT ha hb
  go_enter Tryd.func6, Tryd.ntmps6
  by_cases g0 : a < 0
  · have d0 : decide (a < 0) = true := by simp [g0]
    go_wp2_with fail
    go_ret
    exact ⟨rfl, Below.refl _ _⟩
  have d0 : decide (a < 0) = false := by simp; omega
  by_cases g1 : 40 < a
  · have d1 : decide (a > 40) = true := by simp; omega
    go_wp2_with fail
    go_ret
    exact ⟨rfl, Below.refl _ _⟩
  have d1 : decide (a > 40) = false := by simp; omega
  by_cases g2 : b < 0
  · have d2 : decide (b < 0) = true := by simp [g2]
    go_wp2_with fail
    go_ret
    exact ⟨rfl, Below.refl _ _⟩
  have d2 : decide (b < 0) = false := by simp; omega
  by_cases g3 : 50 < b
  · have d3 : decide (b > 50) = true := by simp; omega
    go_wp2_with fail
    go_ret
    exact ⟨rfl, Below.refl _ _⟩
  have d3 : decide (b > 50) = false := by simp; omega
  obtain ⟨m, rfl⟩ := Int.eq_ofNat_of_zero_le (show 0 ≤ a by omega)
  obtain ⟨q, rfl⟩ := Int.eq_ofNat_of_zero_le (show 0 ≤ b by omega)
  have hm : m ≤ 40 := by omega
  have hq : q ≤ 50 := by omega
  clear g0 g1 g2 g3
  obtain ⟨W, hW⟩ : ∃ W, w.alloc (.cells #[.int .i64 17, .int .i64 0, .int .i64 0, .int .i64 0, .int .i64 0, .string ⟨#[]⟩, .string ⟨#[]⟩, .string ⟨#[]⟩, .int .i64 (-1)] 26) = W := ⟨_, rfl⟩
  have bW : Below w.heap.size w W := by rw [← hW]; exact (Below.refl _ _).alloc (Nat.le_refl _) _
  have BK : Blk W w.heap.size 26 (stpC tellS) := by rw [← hW]; exact Blk.new _ _ _
  have HW := Lib.hid hW
  clear hW
  go_upto_region 4 with fail
  rw [HW.out]
  clear HW
  have hO0 := Lib.hid (OwnSp.nil_ W W.heap.size)
  have HBK := Lib.hid BK
  have hwW := BK.lt
  clear BK
  go_wp2_with fail
  go_loopw [7, 8] (fun v7 v8 wr => ∃ (k : Nat) (t : ByteArray), v7 = .string t ∧ v8 = .int .i64 k ∧ k ≤ q ∧ wr = W ∧ bl t = preT k) (fun _ v8 _ => q - (RowKit.intOf v8).toNat)
  case atStart => exact ⟨0, _, rfl, rfl, Nat.zero_le _, rfl, rfl⟩
  case round =>
    obtain ⟨k, t, rfl, rfl, hk, rfl, ht⟩ := hrel
    have hts : t.size ≤ 100 := by have := bl_length t; rw [ht, preT_len] at this; omega
    by_cases hkq : k < q
    · have HT1 : Hid (bl (t ++ (⟨#[32, 10]⟩ : ByteArray)) = preT (k + 1)) := Lib.hid (by rw [bl_append, ht, preT_snoc]; rfl)
      clear ht
      go_wp2_with fail
      go_roundw
      case rel => exact ⟨k + 1, _, rfl, by go_num, hkq, trivial, HT1.out⟩
      case measure => simp [RowKit.intOf]; omega
    · have hke : k = q := by omega
      subst hke
      have HPT := Lib.hid ht
      obtain ⟨W, hWW⟩ : ∃ W, W = wr := ⟨_, rfl⟩
      subst hWW
      clear ht hkq hk
      go_wp2_with fail
      go_loopw [6, 7, 9] (fun v6 v7 v9 wr => ∃ (k2 : Nat) (t2 : ByteArray), v7 = .string t2 ∧ v9 = .int .i64 k2 ∧ k2 ≤ 300 + m ∧ Below W.heap.size W wr ∧ Hid (OwnSp wr W.heap.size v6 (List.replicate k2 tellS)) ∧ Hid (bl t2 = preT k ++ tellT k2)) (fun _ _ v9 _ => 300 + m - (RowKit.intOf v9).toNat)
      case atStart => exact ⟨0, t, rfl, rfl, Nat.zero_le _, Below.refl _ _, hO0, Lib.hid (by rw [HPT.out]; simp [tellT])⟩
      case round =>
        obtain ⟨k2, t2, rfl, rfl, hk2, hb, HO, HI⟩ := hrel
        have hbw := hb.size
        have ht2s : t2.size ≤ 3000 := by have := bl_length t2; rw [HI.out, List.length_append, preT_len, tellT_len] at this; omega
        obtain ⟨A6, c6, hv6, -, -, -⟩ := HO.out.reads
        rw [List.length_replicate] at hv6
        subst hv6
        by_cases hkm : k2 < 300 + m
        · have HT1 : Hid (bl (t2 ++ (⟨#[116, 101, 108, 108, 32, 48, 10]⟩ : ByteArray)) = preT k ++ tellT (k2 + 1)) := Lib.hid (by rw [bl_append, HI.out, tellT_snoc, List.append_assoc]; rfl)
          have BR := HBK.out.below hb hwW
          have c0 : wr.cell? ⟨w.heap.size, 0, none⟩ = some (.int .i64 17) := BR.cell 0
          have c1 : wr.cell? ⟨w.heap.size, 1, none⟩ = some (.int .i64 0) := BR.cell 1
          have c2 : wr.cell? ⟨w.heap.size, 2, none⟩ = some (.int .i64 0) := BR.cell 2
          have c3 : wr.cell? ⟨w.heap.size, 3, none⟩ = some (.int .i64 0) := BR.cell 3
          have c4 : wr.cell? ⟨w.heap.size, 4, none⟩ = some (.int .i64 0) := BR.cell 4
          have c5 : wr.cell? ⟨w.heap.size, 5, none⟩ = some (.string ⟨#[]⟩) := BR.cell 5
          have c6 : wr.cell? ⟨w.heap.size, 6, none⟩ = some (.string ⟨#[]⟩) := BR.cell 6
          have c7 : wr.cell? ⟨w.heap.size, 7, none⟩ = some (.string ⟨#[]⟩) := BR.cell 7
          have c8 : wr.cell? ⟨w.heap.size, 8, none⟩ = some (.int .i64 (-1)) := BR.cell 8
          clear BR
          go_wp2_with (at_builtin; go_must (refine append_stp wr tellS _ rfl _ rfl _ _ rfl W.heap.size _ (List.replicate k2 tellS) rfl HO.out rfl (by simp; omega) hbw ?_))
          intro v6 w6 o6 g6
          have hb6 : Below W.heap.size W w6 := hb.grown g6 hbw (fun q hq => (HO.out.lt q hq).1)
          have HO6 : Hid (OwnSp w6 W.heap.size v6 (List.replicate (k2 + 1) tellS)) := Lib.hid (by rw [List.replicate_succ']; exact o6)
          clear o6 g6
          go_wp2_with fail
          go_roundw
          case rel => exact ⟨k2 + 1, _, rfl, by go_num, hkm, hb6, HO6, HT1⟩
          case measure => simp [RowKit.intOf]; omega
        · have hke : k2 = 300 + m := by omega
          have HKE := Lib.hid hke
          clear hke
          obtain ⟨A6', c6', hv, -, -, r6⟩ := HO.out.reads
          rw [List.length_replicate] at hv r6
          injection hv with e1 _ e2
          subst e1 e2
          have hk2b : k2 ≤ 340 := by have := HKE.out; omega
          have C1 := Lib.hid (step_Text A6 k2 c6 (List.replicate k2 tellS) wr r6 (by omega) (fun s hs => by rw [List.eq_of_mem_replicate hs]; refine ⟨?_, ?_, ?_⟩ <;> (show (0 : Nat) ≤ _; omega)) (HT.out.below (bW.trans (hb.mono bW.size))))
          have bWr := bW.trans (hb.mono bW.size)
          have C3 := Lib.hid (fun (w' : World) (b : Below w.heap.size w w') => step_Parse t2 w' (by omega) (HT.out.below b))
          have C6 := Lib.hid (fun (w' : World) (b : Below w.heap.size w w') => law40_alive w' (HT.out.below b))
          have e1 := text_many m hm
          have e2 := parse_many k m hq hm
          rw [← HKE.out, ← HI.out] at e2
          rw [← HKE.out] at e1
          clear r6
          by_cases h0 : m = 0
          · subst h0
            rw [if_pos rfl] at e1 e2
            have e3 : textV (List.replicate k2 tellS) = .tuple #[.string ⟨(tellT 300).toArray⟩, .int .i64 0] := by unfold textV; rw [e1]
            rw [e3] at C1
            have E2 := Lib.hid e2
            clear e1 e2 e3
            go_wp2_with fail
            refine C1.out.mono ?_
            clear C1
            rintro e w1 ⟨rfl, b1⟩
            have hb1 := bWr.trans (b1.mono bWr.size)
            go_wp2_with fail
            refine (C3.out w1 hb1).mono ?_
            clear C3
            rintro e w2 ⟨v3, rfl, o3, b2⟩
            rw [E2.out] at o3 ⊢
            obtain ⟨A3, c3, hv3, -, -, -⟩ := o3.reads
            dsimp only at *
            rw [List.length_replicate] at hv3
            subst hv3
            have hb2 := hb1.trans (b2.mono hb1.size)
            clear o3
            unfold erP
            go_wp2_with fail
            refine (C6.out w2 hb2).mono ?_
            rintro e w3 ⟨rfl, b3⟩
            go_wp2_with fail
            go_ret
            exact ⟨rfl, hb2.trans (b3.mono hb2.size)⟩
          · rw [if_neg h0] at e1 e2
            have e3 : textV (List.replicate k2 tellS) = .tuple #[.string ⟨#[]⟩, .int .i64 320] := by unfold textV; rw [e1]
            rw [e3] at C1
            have E2 := Lib.hid e2
            have h0d : ((m : Int) == 0) = false := by simp; omega
            clear e1 e2 e3
            go_wp2_with fail
            refine C1.out.mono ?_
            clear C1
            rintro e w1 ⟨rfl, b1⟩
            have hb1 := bWr.trans (b1.mono bWr.size)
            go_wp2_with fail
            refine (C3.out w1 hb1).mono ?_
            clear C3
            rintro e w2 ⟨v3, rfl, o3, b2⟩
            rw [E2.out] at o3 ⊢
            obtain ⟨A3, c3, hv3, -, -, -⟩ := o3.reads
            dsimp only at *
            rw [List.length_nil] at hv3
            subst hv3
            have hb2 := hb1.trans (b2.mono hb1.size)
            have hat : (((k + 301 : Nat) : Int) == 301 + (k : Int)) = true := by simp; omega
            clear o3
            unfold erP
            go_wp2_with fail
            refine (C6.out w2 hb2).mono ?_
            rintro e w3 ⟨rfl, b3⟩
            go_wp2_with fail
            go_ret
            exact ⟨rfl, hb2.trans (b3.mono hb2.size)⟩
end Go.Proofs.YtimmfcbpdnlfjaaDoor
