/- Contract of the reference's Sort. -/
import Derived.Test.YtfkooohnaodjmaaFolF
import Derived.Test.YtfkooohnaodjmaaTxt
import Derived.Test.YtfkooohnaodjmaaSpnP
namespace Go.Proofs.Ytfkooohnaodjmaa
open Go.RowKit Go.Sort

/-- Texts in that order, each once. -/
def sortN (l : List ByteArray) : List ByteArray := l.foldl (fun s x => putR natC x false s) []
theorem sortN_step (l : List ByteArray) (k : Nat) (hk : k < l.length) : sortN (l.take (k + 1)) = putR natC l[k] false (sortN (l.take k)) := by
  unfold sortN
  rw [List.take_succ_eq_append_getElem hk, List.foldl_append]
  rfl
theorem sortN_len : ∀ l s : List ByteArray, (l.foldl (fun s x => putR natC x false s) s).length ≤ s.length + l.length
  | [], s => Nat.le_refl _
  | x :: l, s => by
    rw [List.foldl_cons]
    refine Nat.le_trans (sortN_len l _) ?_
    have := putR_len (c := natC) x false s
    simp at this
    rw [List.length_cons]
    omega
theorem sortN_mem (y : ByteArray) : ∀ l s : List ByteArray, y ∈ l.foldl (fun s x => putR natC x false s) s → y ∈ s ∨ y ∈ l
  | [], s => .inl
  | x :: l, s => fun h => by
    rcases sortN_mem y l _ h with h | h
    · rcases putR_mem (fun a b h0 => (natC_zero a b).1 h0) x y false s h with h | h
      · exact .inr (by rw [h]; exact List.mem_cons_self ..)
      · exact .inl h
    · exact .inr (List.mem_cons_of_mem _ h)
theorem putR_cons (c : ByteArray → ByteArray → Int) (s x : ByteArray) (i : Bool) (r : List ByteArray) : putR c s i (x :: r) = (if i = false ∧ c s x ≤ 0 then [s] else []) ++ ((if c s x = 0 then [] else [x]) ++ putR c s (i || decide (c s x ≤ 0)) r) := rfl

set_option maxRecDepth 100000 in
set_option maxHeartbeats 8000000 in
theorem ref39_Sort (A : Option Addr) (n c : Nat) (K : List ByteArray) (w : World) (hKn : K.length = n) (hr : Reads w w.heap.size 1 A n (K.map Value.string)) (hn : n ≤ 1000) (hz : ∀ s ∈ K, s.size ≤ 10000000) :
    Calls Try.prog 18 #[.slice A n c] w fun e w' => ∃ v, e = .returned v ∧ OwnX w' w.heap.size v (sortN K) ∧ Below w.heap.size w w' := by
  have HR := Lib.hid hr
  have HN := Lib.hid hKn
  have HZ := Lib.hid hz
  clear hr hKn hz
  have O0 : OwnX w w.heap.size (.slice none 0 0) [] := OwnX.nil_ _ _
  go_enter Try.func18, Try.ntmps18
  go_wp2_with fail
  go_loopw [3, 4, 5, 6, 7, 8] (fun v3 v4 _ _ _ _ wr => ∃ (i : Nat) (S : List ByteArray), v4 = .int .i64 i ∧ i ≤ n ∧ sortN (K.take i) = S ∧ OwnX wr w.heap.size v3 S ∧ Below w.heap.size w wr) (fun _ v4 _ _ _ _ _ => n - (RowKit.intOf v4).toNat)
  case atStart => exact ⟨0, [], rfl, Nat.zero_le _, rfl, O0, Below.refl _ _⟩
  case round =>
    clear O0
    obtain ⟨i, S, rfl, hi, hS, hO, hB⟩ := hrel
    have hSl : S.length ≤ i := by
      rw [← hS]
      have := sortN_len (K.take i) []
      unfold sortN
      rw [List.length_take] at this
      simp at this
      omega
    have hSz : ∀ y ∈ S, y.size ≤ 10000000 := fun y hy => by
      rw [← hS] at hy
      rcases sortN_mem y (K.take i) [] hy with h | h
      · cases h
      · exact HZ.out y (List.mem_of_mem_take h)
    have HSZ := Lib.hid hSz
    have HS := Lib.hid hS
    have HO := Lib.hid hO
    clear hS hO hSz
    by_cases hin : i < n
    · have hiK : i < K.length := by have := HN.out; omega
      obtain ⟨x, hx⟩ : ∃ x, K[i]'hiK = x := ⟨_, rfl⟩
      have HX : Hid (x.size ≤ 10000000) := Lib.hid (by rw [← hx]; exact HZ.out _ (List.getElem_mem hiK))
      obtain ⟨ab, ao, rfl, hadb, hall⟩ := Reads.form HR.out (by omega)
      have hcell := hall i (.string x) (by rw [List.getElem?_map, List.getElem?_eq_getElem hiK, hx]; rfl)
      clear hall
      obtain ⟨ST, hST⟩ : ∃ ST, putR natC x false S = ST := ⟨_, rfl⟩
      have HNX : Hid (sortN (K.take (i + 1)) = ST) := Lib.hid (by rw [sortN_step K i hiK, hx, HS.out, hST])
      have HST := Lib.hid hST
      obtain ⟨m, hm⟩ : ∃ m, S.length = m := ⟨_, rfl⟩
      obtain ⟨A3, c3, rfl, -, -, hg3⟩ := HO.out.form
      have HM := Lib.hid hm
      rw [hm] at hg3 hSl ⊢
      obtain ⟨wo, hwo⟩ : ∃ wo, wo = wr := ⟨_, rfl⟩
      subst hwo
      have hsB := hB.size
      have O5 : OwnX wo wo.heap.size (.slice none 0 0) [] := OwnX.nil_ _ _
      clear hx hST hm
      go_wp2_with fail
      go_loopw [5, 6, 7, 8] (fun v5 v6 v7 _ wr => ∃ (k : Nat) (q : Bool) (T : List ByteArray), v7 = .int .i64 k ∧ v6 = .bool q ∧ k ≤ m ∧ T.length ≤ 2 * k ∧ T ++ putR natC x q (S.drop k) = ST ∧ OwnX wr wo.heap.size v5 T ∧ Below wo.heap.size wo wr) (fun _ _ v7 _ _ => m - (RowKit.intOf v7).toNat)
      case atStart => exact ⟨0, false, [], rfl, rfl, Nat.zero_le _, Nat.le_refl _, by rw [List.drop_zero]; exact HST.out, O5, Below.refl _ _⟩
      case round =>
        clear O5
        obtain ⟨k, q, T, rfl, rfl, hkm, hTl, hT, hOT, hBo⟩ := hrel
        have HT := Lib.hid hT
        have HOT := Lib.hid hOT
        have hBw := hB.trans (hBo.mono hsB)
        have hso := hBo.size
        clear hT hOT
        by_cases hkmm : k < m
        · have hkS : k < S.length := by have := HM.out; omega
          obtain ⟨g3, rfl, hg31, hg32⟩ := hg3 (by omega)
          have hat := HO.out
          have hy0 := hat.at_ k hkS
          obtain ⟨y, hy⟩ : ∃ y, S[k]'hkS = y := ⟨_, rfl⟩
          have HYZ := Lib.hid (HSZ.out _ (List.getElem_mem hkS))
          rw [hy] at hy0 HYZ
          have HDR : Hid (S.drop k = y :: S.drop (k + 1)) := Lib.hid (by rw [List.drop_eq_getElem_cons hkS, hy])
          have e2 : wr.cell? ⟨g3, k, none⟩ = some (.string y) := (hBo.cell (p := ⟨g3, k, none⟩) hg32).trans hy0
          have e1 : wr.cell? ⟨ab, ao + i, none⟩ = some (.string x) := (hBw.cell (p := ⟨ab, ao + i, none⟩) hadb).trans hcell
          obtain ⟨cz, hcz⟩ : ∃ cz, natC x y = cz := ⟨_, rfl⟩
          have HCZ := Lib.hid hcz
          have k1 : ∀ d os, Calls Try.prog 15 #[.string x, .string y] (grow (redrawn wr d) os) fun e w'' => e = .returned (.int .i64 cz) ∧ ∃ p : Regrown, w'' = grow (redrawn wr p.d) p.os := fun d os => Calls.regrown_of (by rw [← hcz]; exact ref39_Natural x y HX.out HYZ.out _)
          clear hat hy0 hy hcz
          go_upto_region 10 with fail
          have q1 := cell_regrown e1
          have q2 := cell_regrown e2
          refine wp_region_quiet_below (by kernel_rfl) (by kernel_rfl) ?_
          repeat (go_big_quiet_step (first | with_reducible exact k1 _ _))
          refine wpQuiet_nil ?_
          rintro W1 ⟨⟨dq, osq⟩, rfl⟩
          have b10 := below_regrown wr dq osq
          obtain ⟨W, hW⟩ : ∃ W, W = grow (redrawn wr dq) osq := ⟨_, rfl⟩
          rw [← hW] at b10 ⊢
          have HOT1 := Lib.hid (HOT.out.below b10)
          have hBo1 := hBo.trans (b10.mono hso)
          have f1 := (b10.cell (p := ⟨ab, ao + i, none⟩) (by have := hBw.size; exact Nat.lt_of_lt_of_le hadb this)).trans e1
          have f2 := (b10.cell (p := ⟨g3, k, none⟩) (by exact Nat.lt_of_lt_of_le hg32 hso)).trans e2
          have hs1 : wo.heap.size ≤ W.heap.size := hBo1.size
          clear k1 q1 q2 e1 e2 hW b10
          obtain ⟨le, hle⟩ : ∃ le, decide (cz ≤ 0) = le := ⟨_, rfl⟩
          have HLE := Lib.hid hle
          go_upto_region 11 with fail
          go_cut [35] from 15 to 51 (fun s35 wx => s35 = .bool (!q && le) ∧ wx = W)
          case first =>
            cases q with
            | true =>
              go_wp2_with fail
              go_meet
              case rel => exact ⟨rfl, rfl⟩
            | false =>
              go_wp2_with fail
              go_meet
              case rel => exact ⟨rfl, rfl⟩
          case rest =>
          obtain ⟨rfl, rfl⟩ := hcut
          go_upto_if 35 with fail
          go_cut [5, 6] from 15 to 51 (fun s5 s6 wx => ∃ T1 : List ByteArray, s6 = .bool (q || le) ∧ T1 = T ++ (if q = false ∧ cz ≤ 0 then [x] else []) ∧ OwnX wx wo.heap.size s5 T1 ∧ Below wo.heap.size wo wx)
          case first =>
            cases q with
            | true =>
              rw [show (!true && le) = false from rfl]
              go_wp2_with fail
              go_meet
              case rel => exact ⟨T, by simp, by simp, HOT1.out, hBo1⟩
            | false =>
              rw [show (!false && le) = le from rfl]
              cases le with
              | false =>
                have hgt : ¬ cz ≤ 0 := of_decide_eq_false hle
                clear HLE
                go_wp2_with fail
                go_meet
                case rel => exact ⟨T, rfl, by rw [if_neg (fun h => by have := h.2; omega)]; simp, HOT1.out, hBo1⟩
              | true =>
                have hgt : cz ≤ 0 := of_decide_eq_true hle
                clear HLE
                go_wp2_with (at_builtin; go_must (refine append_txt _ x _ rfl _ rfl _ _ rfl wo.heap.size _ T rfl HOT1.out rfl (by omega) hs1 ?_); intro v5 w5 o5 g5 _)
                go_meet
                case rel => exact ⟨T ++ [x], by simp, by simp [hgt], o5, Below.grown hBo1 g5 hs1 (fun q hq => (HOT1.out.lt q hq).1)⟩
          case rest =>
          obtain ⟨T1, rfl, hT1, hOT1, hBo2⟩ := hcut
          have hT1l : T1.length ≤ 2 * k + 1 := by
            rw [hT1, List.length_append]
            split <;> simp <;> omega
          have HOT2 := Lib.hid hOT1
          obtain ⟨W2, hW2⟩ : ∃ W2, W2 = wc := ⟨_, rfl⟩
          subst hW2
          have hs2 := hBo2.size
          have f2 : W2.cell? ⟨g3, k, none⟩ = some (.string y) := (hBo2.cell (p := ⟨g3, k, none⟩) hg32).trans ((hBo1.cell (p := ⟨g3, k, none⟩) hg32).symm.trans f2)
          have HF : Hid (T1 ++ ((if cz = 0 then [] else [y]) ++ putR natC x (q || le) (S.drop (k + 1))) = ST) := Lib.hid (by
            rw [← HT.out, HDR.out, putR_cons, HCZ.out, hT1, ← HLE.out, List.append_assoc])
          clear f1 hOT1 hT1
          obtain ⟨r, hr⟩ : ∃ r, (q || le) = r := ⟨_, rfl⟩
          rw [hr] at HF ⊢
          clear hr
          by_cases h0 : cz = 0
          · have hd : (cz != 0) = false := by simp [h0]
            have HG : Hid (T1 ++ putR natC x r (S.drop (k + 1)) = ST) := Lib.hid (by rw [← HF.out, if_pos h0]; rfl)
            clear h0 HF
            go_wp2_with fail
            go_roundw
            case rel => exact ⟨k + 1, r, T1, by go_num, rfl, hkmm, by omega, HG.out, HOT2.out, hBo2⟩
            case measure => simp [RowKit.intOf]; omega
          · have hd : (cz != 0) = true := by simp [h0]
            have HG : Hid ((T1 ++ [y]) ++ putR natC x r (S.drop (k + 1)) = ST) := Lib.hid (by rw [← HF.out, if_neg h0, List.append_assoc])
            clear h0 HF
            go_wp2_with (at_builtin; go_must (refine append_txt W2 y _ rfl _ rfl _ _ rfl wo.heap.size _ T1 rfl HOT2.out rfl (by omega) hs2 ?_); intro v5 w5 o5 g5 _)
            obtain ⟨A5, c5, rfl, -, -, -⟩ := o5.form
            go_roundw
            case rel => exact ⟨k + 1, r, T1 ++ [y], by go_num, rfl, hkmm, by rw [List.length_append]; show T1.length + 1 ≤ _; omega, HG.out, o5, Below.grown hBo2 g5 hs2 (fun q hq => (HOT2.out.lt q hq).1)⟩
            case measure => simp [RowKit.intOf]; omega
        · have hkk : k = m := by omega
          have HF : Hid (T ++ (if q = true then [] else [x]) = ST) := Lib.hid (by
            rw [← HT.out, List.drop_of_length_le (by rw [HM.out]; omega)]
            cases q <;> rfl)
          have hTb : T.length ≤ 1000000000 := by omega
          clear hkk
          cases q with
          | true =>
            have HE : Hid (T = ST) := Lib.hid (by rw [← HF.out]; simp)
            rw [HE.out] at HOT
            obtain ⟨A5, c5, rfl, -, -, -⟩ := HOT.out.form
            go_wp2_with fail
            go_roundw
            case rel => exact ⟨i + 1, ST, by go_num, hin, HNX.out, HOT.out.base_le hsB, hBw⟩
            case measure => simp [RowKit.intOf]; omega
          | false =>
            have f1 : wr.cell? ⟨ab, ao + i, none⟩ = some (.string x) := (hBw.cell (p := ⟨ab, ao + i, none⟩) hadb).trans hcell
            have HE : Hid (T ++ [x] = ST) := Lib.hid (by rw [← HF.out]; simp)
            go_wp2_with (at_builtin; go_must (refine append_txt wr x _ rfl _ rfl _ _ rfl wo.heap.size _ T rfl HOT.out rfl hTb hso ?_); intro v5 w5 o5 g5 _)
            rw [HE.out] at o5
            obtain ⟨A5, c5, rfl, -, -, -⟩ := o5.form
            have b5 := Below.grown hBo g5 hso (fun q hq => (HOT.out.lt q hq).1)
            go_roundw
            case rel => exact ⟨i + 1, ST, by go_num, hin, HNX.out, o5.base_le hsB, hB.trans (b5.mono hsB)⟩
            case measure => simp [RowKit.intOf]; omega
    · have HE : Hid (S = sortN K) := Lib.hid (by rw [← HS.out, List.take_of_length_le (by rw [HN.out]; omega)])
      rw [HE.out] at HO
      obtain ⟨A3, c3, rfl, -, -, -⟩ := HO.out.form
      go_wp2_with fail
      go_ret
      exact ⟨_, rfl, HO.out, hB⟩
end Go.Proofs.Ytfkooohnaodjmaa
