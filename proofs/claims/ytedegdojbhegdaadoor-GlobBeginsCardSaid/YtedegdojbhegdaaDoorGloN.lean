/- A pattern with stars around it; a text's runes as a text again; contract of the law's valid. -/
import Derived.Test.YtedegdojbhegdaaDoorGlobMatchesWalk
import Derived.Laws.Cover4
namespace Go.Proofs.YtedegdojbhegdaaDoor
open Go.RowKit Go.Sort

theorem all_sc (s : ByteArray) : ∀ r ∈ rest s 0, Sc r := rest_sc s 0
theorem enc42 : enc 42 = [42] := by decide +kernel
/-- What ends in a star and is a row of runes' bytes is one without it. -/
theorem encs_end {R : List Nat} {l : List UInt8} (hR : ∀ r ∈ R, Sc r) (h : l ++ [42] = encs R) : ∃ R', R = R' ++ [42] ∧ l = encs R' := by
  rcases List.eq_nil_or_concat R with rfl | ⟨R', r, rfl⟩
  · simp [encs] at h
  · rw [List.concat_eq_append] at h hR ⊢
    rw [encs_append, encs_cons, encs_nil, List.append_nil] at h
    have hs := hR r (by simp)
    have hp := enc_pos r hs
    have hlast : (enc r).getLast? = some 42 := by
      have h1 := congrArg List.getLast? h
      rw [List.getLast?_append] at h1
      simp only [List.getLast?_singleton, Option.some_or] at h1
      rw [List.getLast?_append] at h1
      cases he : (enc r).getLast? with
      | none =>
        rw [List.getLast?_eq_none_iff] at he
        rw [he] at hp
        simp at hp
      | some c =>
        rw [he] at h1
        simp at h1
        rw [h1]
    have hr42 : r = 42 := by
      rcases enc_forms r hs with ⟨h1, e⟩ | ⟨h1, h2, e⟩ | ⟨h1, h2, e⟩ | ⟨h1, e⟩
      · skip
        rw [e] at hlast
        have h9 : UInt8.ofNat (r) = 42 := Option.some.inj hlast
        have := congrArg UInt8.toNat h9
        rw [of_nat_u8 (r) (by omega)] at this
        have h42 : (42 : UInt8).toNat = 42 := rfl
        omega
      · skip
        rw [e] at hlast
        have h9 : UInt8.ofNat (128 + r % 64) = 42 := Option.some.inj hlast
        have := congrArg UInt8.toNat h9
        rw [of_nat_u8 (128 + r % 64) (by omega)] at this
        have h42 : (42 : UInt8).toNat = 42 := rfl
        omega
      · skip
        rw [e] at hlast
        have h9 : UInt8.ofNat (128 + r % 64) = 42 := Option.some.inj hlast
        have := congrArg UInt8.toNat h9
        rw [of_nat_u8 (128 + r % 64) (by omega)] at this
        have h42 : (42 : UInt8).toNat = 42 := rfl
        omega
      · skip
        unfold Sc at hs
        rw [e] at hlast
        have h9 : UInt8.ofNat (128 + r % 64) = 42 := Option.some.inj hlast
        have := congrArg UInt8.toNat h9
        rw [of_nat_u8 (128 + r % 64) (by omega)] at this
        have h42 : (42 : UInt8).toNat = 42 := rfl
        omega
    subst hr42
    rw [enc42] at h
    exact ⟨R', rfl, List.append_cancel_right h⟩
/-- The pattern with stars around it: it is one just if the pattern is. -/
theorem pat_around (s q : ByteArray) (hq : bl q = [42] ++ bl s ++ [42]) (hs : s.size ≤ 90) : patP q = (patP s).map fun P => ⟨3, []⟩ :: (P ++ [⟨3, []⟩]) := by
  have hqs : q.size = s.size + 2 := by
    rw [← bl_length q, hq, ← bl_length s]
    simp
  have hv : allRunes q = allRunes s ∧ (allRunes s = true → rest q 0 = 42 :: (rest s 0 ++ [42])) := by
    cases h : allRunes s with
    | true =>
      have hb := bl_valid s h
      have hR : ∀ r ∈ (42 :: (rest s 0 ++ [42])), Sc r := by
        intro r hr
        rcases List.mem_cons.1 hr with rfl | hr
        · exact .inl (by omega)
        · rcases List.mem_append.1 hr with hr | hr
          · exact rest_sc s 0 r hr
          · rw [List.mem_singleton.1 hr]
            exact .inl (by omega)
      have he : bl q = encs (42 :: (rest s 0 ++ [42])) := by
        rw [hq, encs_cons, encs_append, encs_cons, encs_nil, List.append_nil, enc42, ← hb]
        simp
      exact ⟨valid_enc q _ hR he, fun _ => rest_enc q _ hR he⟩
    | false =>
      refine ⟨?_, fun h => by cases h⟩
      cases hq2 : allRunes q with
      | false => rfl
      | true =>
        have hb := bl_valid q hq2
        have hR := rest_sc q 0
        rw [hq] at hb
        obtain ⟨R', hR', hl⟩ := encs_end hR hb
        cases R' with
        | nil => simp [encs] at hl
        | cons r0 R'' =>
          exfalso
          rw [hR'] at hR
          have hs0 := hR r0 (by simp)
          rw [encs_cons] at hl
          have h0 : r0 = 42 := by
            have hp := enc_pos r0 hs0
            have hh : (enc r0).head? = some 42 := by
              cases he : enc r0 with
              | nil => rw [he] at hp; simp at hp
              | cons x xs =>
                rw [he] at hl
                simp at hl
                rw [← hl.1]
                rfl
            rcases enc_forms r0 hs0 with ⟨h1, e⟩ | ⟨h1, h2, e⟩ | ⟨h1, h2, e⟩ | ⟨h1, e⟩
            · skip
              rw [e] at hh
              have h9 : UInt8.ofNat (r0) = 42 := Option.some.inj hh
              have := congrArg UInt8.toNat h9
              rw [of_nat_u8 (r0) (by omega)] at this
              have h42 : (42 : UInt8).toNat = 42 := rfl
              omega
            · skip
              rw [e] at hh
              have h9 : UInt8.ofNat (192 + r0 / 64) = 42 := Option.some.inj hh
              have := congrArg UInt8.toNat h9
              rw [of_nat_u8 (192 + r0 / 64) (by omega)] at this
              have h42 : (42 : UInt8).toNat = 42 := rfl
              omega
            · skip
              rw [e] at hh
              have h9 : UInt8.ofNat (224 + r0 / 4096) = 42 := Option.some.inj hh
              have := congrArg UInt8.toNat h9
              rw [of_nat_u8 (224 + r0 / 4096) (by omega)] at this
              have h42 : (42 : UInt8).toNat = 42 := rfl
              omega
            · skip
              unfold Sc at hs0
              rw [e] at hh
              have h9 : UInt8.ofNat (240 + r0 / 262144) = 42 := Option.some.inj hh
              have := congrArg UInt8.toNat h9
              rw [of_nat_u8 (240 + r0 / 262144) (by omega)] at this
              have h42 : (42 : UInt8).toNat = 42 := rfl
              omega
          subst h0
          rw [enc42] at hl
          have hl2 : bl s = encs R'' := by simpa using hl
          have := valid_enc s R'' (fun r hr => hR r (by simp [hr])) hl2
          rw [h] at this
          cases this
  unfold patP
  cases h : allRunes s with
  | true =>
    rw [if_neg (by rw [hv.1, h]; simp; omega), if_neg (by simp; omega), hv.2 h, pt_around]
  | false =>
    rw [if_pos (.inr (by rw [hv.1, h])), if_pos (.inr rfl)]
    rfl

theorem bl_foldl : ∀ (R : List Nat) (b : ByteArray), bl ((R.map fun r : Nat => (r : Int)).foldl (fun r n => r ++ Utf8.encode n) b) = bl b ++ encs R
  | [], b => by simp [encs]
  | r :: R, b => by
    rw [List.map_cons, List.foldl_cons, bl_foldl R, bl_append, encs_cons, List.append_assoc]
    rfl
theorem runesBytes_is (R : List Nat) : runesBytes (R.map fun r : Nat => (r : Int)) = strE R := strE_of (by
  unfold runesBytes
  rw [bl_foldl]
  rfl)
theorem conv_back (s : ByteArray) (w : World) : (convert 41 9 (.slice (some ⟨w.heap.size, 0, none⟩) (rest s 0).length (rnC s w))).run Tryd.prog (rnW s w) = .ok (.string (strE (rest s 0))) (rnW s w) := by
  have h := run_convert_runes (P := Tryd.prog) (rnW s w) 41 9 21 ⟨w.heap.size, 0, none⟩ (rest s 0).length (rnC s w) ((rest s 0).map fun r : Nat => (r : Int)) (by simp) Tryd.underlying41 Tryd.underlying21 Tryd.underlying9 (fun j hj => by
    have hj2 : j < (rest s 0).length := by simpa using hj
    rw [add_lit, Nat.zero_add, rnW_cell s w j _ (List.getElem?_eq_getElem hj2)]
    simp [rv, hj2])
  rw [List.take_of_length_le (by simp), runesBytes_is] at h
  exact h
/-- Is a text one of runes? -/
def validV (s : ByteArray) : Bool := (strE (rest s 0)).toList == s.toList
theorem validV_true {s : ByteArray} (h : validV s = true) : bl s = encs (rest s 0) := by
  unfold validV at h
  have h2 : (strE (rest s 0)).toList = s.toList := by simpa using h
  rw [Lib.toList_data, Lib.toList_data] at h2
  exact h2.symm
set_option maxRecDepth 100000 in
theorem law38_valid (s : ByteArray) (hs : s.size ≤ 70368744177664) (w : World) : Calls Tryd.prog 25 #[.string s] w fun x w' => x = .returned (.bool (validV s)) ∧ Below w.heap.size w w' := by
  have hcv := conv_runes s hs
  have hcb := conv_back s
  have hb := rnW_below s w
  unfold validV
  obtain ⟨S, hS⟩ : ∃ S, strE (rest s 0) = S := ⟨_, rfl⟩
  rw [hS] at hcb ⊢
  clear hS
  go_enter Tryd.func25, Tryd.ntmps25
  go_wp2_with fail
  go_ret
  exact ⟨rfl, hb⟩
end Go.Proofs.YtedegdojbhegdaaDoor
