/- The reference's Has and put; the law's mine and is. -/
import Derived.Test.YtomefcngaclehaaSpnM
import Derived.Test.YtomefcngaclehaaTxt
namespace Go.Proofs.Ytomefcngaclehaa
open Go.RowKit Go.Sort
attribute [local go_sem] lt_T lo_T not_ltT not_leT ne_T

theorem inL_snoc (c : ByteArray → ByteArray → Int) (l : List Sp) (i : Nat) (hi : i < l.length) (k : ByteArray) : inL c (l.take (i + 1)) k = (inL c (l.take i) k || inS c l[i] k) := by
  rw [List.take_succ_eq_append_getElem hi, inL_append, inL_cons, inL_nil, Bool.or_false]

set_option maxRecDepth 100000 in
set_option maxHeartbeats 1000000 in
theorem ref46_Has (A : Option Addr) (n c : Nat) (l : List Sp) (k : ByteArray) (w : World) (hr : RdP w A l) (hnl : l.length = n) (hn : n ≤ 1000000) :
    Calls Try.prog 25 #[.slice A n c, .string k] w fun e w' => e = .returned (.bool (inL cmpT l k)) ∧ w = w' := by
  obtain ⟨r, hr0⟩ : ∃ r, inL cmpT l k = r := ⟨_, rfl⟩
  rw [hr0]
  have HRR := Lib.hid hr0
  have HR := Lib.hid hr
  have HNL := Lib.hid hnl
  clear hr hnl hr0
  go_enter Try.func25, Try.ntmps25
  go_wp2_with fail
  go_loop [5] (fun v5 => ∃ i : Nat, v5 = .int .i64 i ∧ i ≤ n ∧ inL cmpT (l.take i) k = false) (fun v5 => n - (intOf v5).toNat)
  case atStart => exact ⟨0, rfl, Nat.zero_le _, by rw [List.take_zero]; rfl⟩
  case round =>
    obtain ⟨i, rfl, hi, hL⟩ := hrel
    have HL := Lib.hid hL
    clear hL
    by_cases hin : i < n
    · have hil : i < l.length := by have := HNL.out; omega
      obtain ⟨b, off, rfl, hb, hc1⟩ := HR.out.at_ (by omega)
      obtain ⟨p1, p2⟩ := hc1 i hil
      have hsn := inL_snoc cmpT l i hil k
      obtain ⟨⟨x1, x2⟩, hx⟩ : ∃ x, l[i]'hil = x := ⟨_, rfl⟩
      rw [hx] at p1 p2 hsn
      simp only at p1 p2
      rw [HL.out, Bool.false_or, show inS cmpT (x1, x2) k = (leT x1 k && ltT k x2) from rfl] at hsn
      have HSN := Lib.hid hsn
      clear hc1 hx hsn
      cases h1 : leT x1 k with
      | false =>
        have H2 : Hid (inL cmpT (l.take (i + 1)) k = false) := Lib.hid (by rw [HSN.out, h1]; rfl)
        go_wp2_with fail
        go_round
        case rel => exact ⟨i + 1, by go_num, hin, H2.out⟩
        case measure => simp [intOf]; omega
      | true =>
        cases h2 : ltT k x2 with
        | false =>
          have H2 : Hid (inL cmpT (l.take (i + 1)) k = false) := Lib.hid (by rw [HSN.out, h1, h2]; rfl)
          go_wp2_with fail
          go_round
          case rel => exact ⟨i + 1, by go_num, hin, H2.out⟩
          case measure => simp [intOf]; omega
        | true =>
          have H2 : Hid (true = r) := Lib.hid (by
            rw [← HRR.out]
            have h3 : inL cmpT (l.take (i + 1)) k = true := by rw [HSN.out, h1, h2]; rfl
            rw [← List.take_append_drop (i + 1) l, inL_append, h3]
            rfl)
          go_wp2_with fail
          go_ret
          exact ⟨ret_bool' H2.out, rfl⟩
    · have H2 : Hid (false = r) := Lib.hid (by
        have h := HL.out
        rw [List.take_of_length_le (by have := HNL.out; omega)] at h
        rw [← HRR.out, h])
      go_wp2_with fail
      go_ret
      exact ⟨ret_bool' H2.out, rfl⟩

theorem putR_consS (s x : ByteArray) (q : Bool) (r : List ByteArray) : putR cmpT s q (x :: r) = (if !q && leT s x then [s] else []) ++ ((if neT x s then [x] else []) ++ putR cmpT s (q || leT s x) r) := by
  unfold putR
  have h1 : (if q = false ∧ cmpT s x ≤ 0 then [s] else []) = if (!q && leT s x) = true then [s] else [] := by
    unfold leT
    simp
  have h2 : (if cmpT s x = 0 then [] else [x]) = if neT x s = true then [x] else [] := by
    unfold neT
    have := cmp_T.anti s x
    by_cases h : cmpT s x = 0
    · rw [if_pos h, decide_eq_false (by omega), if_neg (by decide)]
    · rw [if_neg h, decide_eq_true (by omega), if_pos rfl]
  rw [h1, h2]
  conv => lhs; rw [show decide (cmpT s x ≤ 0) = leT s x from rfl]
  congr 2
  cases r <;> rfl

set_option maxRecDepth 100000 in
set_option maxHeartbeats 4000000 in
theorem ref46_put (A : Option Addr) (n c : Nat) (S : List ByteArray) (s : ByteArray) (w : World) (hr : Reads w w.heap.size 1 A n (S.map Value.string)) (hn : n ≤ 1000000) :
    Calls Try.prog 68 #[.slice A n c, .string s] w fun e w' => ∃ v, e = .returned v ∧ OwnX w' w.heap.size v (putR cmpT s false S) ∧ Below w.heap.size w w' := by
  obtain ⟨R, hR0⟩ : ∃ R, putR cmpT s false S = R := ⟨_, rfl⟩
  rw [hR0]
  have HRR := Lib.hid hR0
  have hSn : S.length = n := by have := hr.1; simpa using this
  have HN := Lib.hid hSn
  have HR := Lib.hid hr
  clear hr hR0 hSn
  have O5 : OwnX w w.heap.size (.slice none 0 0) [] := OwnX.nil_ _ _
  go_enter Try.func68, Try.ntmps68
  go_wp2_with fail
  go_loopw [5, 6, 7] (fun v5 v6 v7 wr => ∃ (i : Nat) (q : Bool) (T : List ByteArray), v7 = .int .i64 i ∧ v6 = .bool q ∧ i ≤ n ∧ T.length ≤ 2 * i ∧ T ++ putR cmpT s q (S.drop i) = R ∧ OwnX wr w.heap.size v5 T ∧ Below w.heap.size w wr) (fun _ _ v7 _ => n - (intOf v7).toNat)
  case atStart => exact ⟨0, false, [], rfl, rfl, Nat.zero_le _, Nat.le_refl _, by rw [List.drop_zero]; exact HRR.out, O5, Below.refl _ _⟩
  case round =>
    clear O5
    obtain ⟨i, q, T, rfl, rfl, hi, hTl, hT, hO, hB⟩ := hrel
    have HT := Lib.hid hT
    have HO := Lib.hid hO
    have hsB := hB.size
    clear hT hO
    by_cases hin : i < n
    · have hiS : i < S.length := by have := HN.out; omega
      obtain ⟨b, off, rfl, hb, hall⟩ := Reads.form HR.out (by omega)
      obtain ⟨x, hx⟩ : ∃ x, S[i]'hiS = x := ⟨_, rfl⟩
      have e0 := (hall i (.string x) (by rw [List.getElem?_map, List.getElem?_eq_getElem hiS, hx]; rfl))
      have e1 := hb_cell hB e0
      have HF : Hid (T ++ ((if !q && leT s x then [s] else []) ++ ((if neT x s then [x] else []) ++ putR cmpT s (q || leT s x) (S.drop (i + 1)))) = R) := Lib.hid (by
        rw [← putR_consS, ← hx, ← List.drop_eq_getElem_cons hiS]
        exact HT.out)
      clear hall hx HT
      obtain ⟨le, hle⟩ : ∃ le, leT s x = le := ⟨_, rfl⟩
      have HLE := Lib.hid hle
      go_upto_region 6 with fail
      go_cut [23] from 8 to 40 (fun s23 wx => s23 = .bool (!q && le) ∧ wx = wr)
      case first =>
        cases q with
        | true =>
          go_wp2_with fail
          go_meet
          case rel => exact ⟨rfl, rfl⟩
        | false =>
          go_wp2_with fail
          go_meet
          case rel => exact ⟨rfl, rfl⟩
      case rest =>
      obtain ⟨rfl, rfl⟩ := hcut
      go_upto_if 23 with fail
      go_cut [5, 6] from 8 to 40 (fun s5 s6 wx => ∃ T1 : List ByteArray, s6 = .bool (q || le) ∧ T1 = T ++ (if !q && le then [s] else []) ∧ OwnX wx w.heap.size s5 T1 ∧ Below w.heap.size w wx)
      case first =>
        cases q with
        | true =>
          rw [show (!true && le) = false from rfl]
          go_wp2_with fail
          go_meet
          case rel => exact ⟨T, by simp, by simp, HO.out, hB⟩
        | false =>
          rw [show (!false && le) = le from rfl]
          cases le with
          | false =>
            clear HLE
            go_wp2_with fail
            go_meet
            case rel => exact ⟨T, rfl, by simp, HO.out, hB⟩
          | true =>
            clear HLE
            go_wp2_with (at_builtin; go_must (refine append_txt _ s _ rfl _ rfl _ _ rfl w.heap.size _ T rfl HO.out rfl (by omega) hsB ?_); intro v5 w5 o5 g5 _)
            go_meet
            case rel => exact ⟨T ++ [s], by simp, by simp, o5, Below.grown hB g5 hsB (fun q hq => (HO.out.lt q hq).1)⟩
      case rest =>
      obtain ⟨T1, rfl, hT1, hO1, hB2⟩ := hcut
      have hT1l : T1.length ≤ 2 * i + 1 := by
        rw [hT1, List.length_append]
        split <;> simp <;> omega
      have HO2 := Lib.hid hO1
      obtain ⟨W2, hW2⟩ : ∃ W2, W2 = wc := ⟨_, rfl⟩
      subst hW2
      have hs2 := hB2.size
      have f2 : W2.cell? ⟨b, off + i, none⟩ = some (.string x) := hb_cell hB2 e0
      have HF2 : Hid (T1 ++ ((if neT x s then [x] else []) ++ putR cmpT s (q || le) (S.drop (i + 1))) = R) := Lib.hid (by
        rw [← HF.out, hT1, HLE.out, List.append_assoc])
      clear e0 e1 hO1 hT1 HF hle
      obtain ⟨r, hr⟩ : ∃ r, (q || le) = r := ⟨_, rfl⟩
      rw [hr] at HF2 ⊢
      clear hr HLE
      cases h0 : neT x s with
      | false =>
        have HG : Hid (T1 ++ putR cmpT s r (S.drop (i + 1)) = R) := Lib.hid (by rw [← HF2.out, h0]; rfl)
        go_wp2_with fail
        go_roundw
        case rel => exact ⟨i + 1, r, T1, by go_num, rfl, hin, by omega, HG.out, HO2.out, hB2⟩
        case measure => simp [intOf]; omega
      | true =>
        have HG : Hid ((T1 ++ [x]) ++ putR cmpT s r (S.drop (i + 1)) = R) := Lib.hid (by rw [← HF2.out, h0, List.append_assoc]; rfl)
        have HGN := Lib.hid (fun (w' : World) (G : W2.grownBy w' u5.ownBlock) => Below.grown hB2 G hs2 (fun q hq => (HO2.out.lt q hq).1))
        go_wp2_with (at_builtin; go_must (refine append_txt W2 x _ rfl _ rfl _ _ rfl w.heap.size _ T1 rfl HO2.out rfl (by omega) hs2 ?_); intro v5 w5 o5 g5 _; have HO5 := Lib.hid o5; have HB5 := Lib.hid (HGN.out w5 g5))
        go_roundw
        case rel => exact ⟨i + 1, r, T1 ++ [x], by go_num, rfl, hin, by rw [List.length_append]; show T1.length + 1 ≤ _; omega, HG.out, HO5.out, HB5.out⟩
        case measure => simp [intOf]; omega
    · have HF : Hid (T ++ (if q then [] else [s]) = R) := Lib.hid (by
        have h := HT.out
        rw [List.drop_eq_nil_of_le (by have := HN.out; omega)] at h
        rw [← h]
        unfold putR
        rfl)
      cases q with
      | true =>
        have HG : Hid (T = R) := Lib.hid (by rw [← HF.out]; simp)
        have HO2 : Hid (OwnX wr w.heap.size u5 R) := Lib.hid (by rw [← HG.out]; exact HO.out)
        go_wp2_with fail
        go_ret
        exact ⟨_, rfl, HO2.out, hB⟩
      | false =>
        have HG : Hid (T ++ [s] = R) := Lib.hid (by rw [← HF.out]; rfl)
        have HGN := Lib.hid (fun (w' : World) (G : wr.grownBy w' u5.ownBlock) => Below.grown hB G hsB (fun q hq => (HO.out.lt q hq).1))
        go_wp2_with (at_builtin; go_must (refine append_txt wr s _ rfl _ rfl _ _ rfl w.heap.size _ T rfl HO.out rfl (by omega) hsB ?_); intro v5 w5 o5 g5 _; rw [HG.out] at o5; have HO5 := Lib.hid o5; have HB5 := Lib.hid (HGN.out w5 g5))
        go_ret
        exact ⟨_, rfl, HO5.out, HB5.out⟩
end Go.Proofs.Ytomefcngaclehaa
