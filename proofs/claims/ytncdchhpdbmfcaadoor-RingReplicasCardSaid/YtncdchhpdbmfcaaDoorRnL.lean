/- Contract of the reference's Key. Condition: the text has at most 2^46 bytes. -/
import Derived.Test.YtncdchhpdbmfcaaDoorRnK
namespace Go.Proofs.YtncdchhpdbmfcaaDoor
open Go.RowKit Go.Sort Go.Lib

def KRel (w : World) (L : List Nat) (b : Nat) (v4 : Value) (wr : World) : Prop :=
  ∃ k : Nat, v4 = .int .i64 k ∧ k ≤ L.length ∧ (∀ j r : Nat, L[j]? = some r → wr.cell? ⟨b, j, none⟩ = some (.int .i32 (r : Int))) ∧ b < wr.heap.size ∧ Below w.heap.size w wr ∧ (L.drop k).all (fun r => partB r false) = L.all (fun r => partB r false)

theorem rune_small (s : ByteArray) : ∀ (f i : Nat), ∀ r ∈ rns s f i, r ≤ 2147483647
  | 0, _ => by simp [rns]
  | f + 1, i => by
    intro r hr
    rw [rns] at hr
    split at hr
    · rename_i h
      obtain ⟨r', d', hD, _, h3, _⟩ := decode_some s i h
      rw [hD] at hr
      rcases List.mem_cons.1 hr with rfl | hr
      · exact h3
      · exact rune_small s f _ r hr
    · cases hr
theorem key_split (s : ByteArray) (r : Nat) (L : List Nat) (hL : rest s 0 = r :: L) (h24 : s.size ≤ 24) (h0 : 0 < s.size) : keyB s = (allRunes s && (letterB r && (r :: L).all (fun r => partB r false))) := by
  unfold keyB allRunes
  rw [rest_prs] at hL
  cases hp : prs s 0 with
  | nil => rw [hp] at hL; cases hL
  | cons p t =>
    obtain ⟨r', d⟩ := p
    rw [hp] at hL
    simp only [List.map_cons, List.cons.injEq] at hL
    obtain ⟨rfl, rfl⟩ := hL
    rw [goodK_true]
    have e : (((r', d) :: t).all fun p => partB p.1 false) = (r' :: t.map (·.1)).all fun r => partB r false := by
      rw [List.all_cons, List.all_cons, List.all_map]
      rfl
    rw [e]
    simp [h24, h0, Bool.and_assoc]

set_option maxRecDepth 100000 in
set_option maxHeartbeats 4000000 in
theorem ref01_Key (s : ByteArray) (hs : s.size ≤ 70368744177664) (w : World) (hT : Tabs w) : Calls Tryd.prog 26 #[.string s] w fun e w' => e = .returned (.bool (keyB s)) ∧ Below w.heap.size w w' := by
  have hrl := rest_length s 0
  have hcv := run_runes_of_string (P := Tryd.prog) w 9 72 21 s Tryd.underlying9 Tryd.underlying72 Tryd.underlying21 (by rw [runes_all]; simp; omega)
  rw [runes_all] at hcv
  simp only [List.size_toArray, List.length_map] at hcv
  obtain ⟨L, hL⟩ : ∃ L, rest s 0 = L := ⟨_, rfl⟩
  rw [hL] at hcv hrl
  obtain ⟨cap, hcap⟩ : ∃ cap, grownCap w L.length 0 21 = cap := ⟨_, rfl⟩
  rw [hcap] at hcv
  obtain ⟨arr, harr⟩ : ∃ arr, ((L.map fun r : Nat => Value.int .i32 (r : Int)).toArray ++ Array.replicate (cap - L.length) (Value.int .i32 0)) = arr := ⟨_, rfl⟩
  rw [harr] at hcv
  have hcells : ∀ j r : Nat, L[j]? = some r → arr[j]? = some (Value.int .i32 (r : Int)) := fun j r h => by
    have hj := (List.getElem?_eq_some_iff.1 h).1
    rw [← harr, Array.getElem?_append_left (by simpa using hj)]
    simp [h]
  have HB0 := Blk.new w 21 arr
  have hB : Below w.heap.size w (w.alloc (.cells arr 21)).drew := below_drewN ((Below.refl _ _).alloc (Nat.le_refl _) (.cells arr 21)) 1
  have hcw : ∀ j r : Nat, L[j]? = some r → (w.alloc (.cells arr 21)).drew.cell? ⟨w.heap.size, j, none⟩ = some (.int .i32 (r : Int)) := fun j r h => by
    rw [HB0.drew.cell]
    exact hcells j r h
  have hblt : w.heap.size < (w.alloc (.cells arr 21)).drew.heap.size := HB0.drew.lt
  have HCW := Lib.hid hcw
  have HT := Lib.hid hT
  have HL := Lib.hid hL
  have hsm : ∀ r ∈ L, r ≤ 2147483647 := fun r hr => rune_small s _ _ r (by unfold rest at hL; rw [hL]; exact hr)
  have HSM := Lib.hid hsm
  clear hT hL hcap harr hcells HB0 hcw hsm
  by_cases h0 : s.size = 0
  · have hl0 : L = [] := List.eq_nil_of_length_eq_zero (by omega)
    have H : Hid (keyB s = false) := Lib.hid (by unfold keyB; simp [h0])
    subst hl0
    have hz : (((([] : List Nat).length : Nat) : Int) == 0) = true := rfl
    go_enter Tryd.func26, Tryd.ntmps26
    go_wp2_with fail
    go_ret
    exact ⟨ret_b H.out.symm, hB⟩
  cases L with
  | nil =>
    exfalso
    have := HL.out
    obtain ⟨r, d, hD, hd, _⟩ := decode_some s 0 (by omega)
    rw [rest_cons s 0 (by omega) hD hd] at this
    cases this
  | cons r0 L =>
  obtain ⟨n, hn⟩ : ∃ n, (r0 :: L).length = n + 1 := ⟨L.length, rfl⟩
  have HN := Lib.hid hn
  rw [hn] at hcv hrl
  have hz : (((n + 1 : Nat) : Int) == 0) = false := by simp; omega
  have hz' : (((n : Nat) : Int) + 1 == 0) = false := by simp; omega
  clear hn
  by_cases h24 : 24 < s.size
  · have hd : decide (24 < (s.size : Int)) = true := by simp; omega
    have H : Hid (keyB s = false) := Lib.hid (by unfold keyB; simp; omega)
    go_enter Tryd.func26, Tryd.ntmps26
    go_wp2_with fail
    go_ret
    exact ⟨ret_b H.out.symm, hB⟩
  have hd : decide (24 < (s.size : Int)) = false := by simp; omega
  have HK := Lib.hid (key_split s r0 L HL.out (by omega) (by omega))
  obtain ⟨q, hq⟩ : ∃ q, allRunes s = q := ⟨_, rfl⟩
  have HC := Lib.hid (ref01_Bad s (by unfold maxLen; omega) (w.alloc (.cells arr 21)).drew (HT.out.below hB))
  rw [hq] at HC HK
  clear hq
  go_enter Tryd.func26, Tryd.ntmps26
  go_wp2_with fail
  refine HC.out.mono ?_
  clear HC hcv
  rintro e w1 ⟨rfl, b1⟩
  have HCW1 := Lib.hid (fun j r h => hb_cell b1 (HCW.out j r h))
  replace hB := hB.trans (b1.mono hB.size)
  replace hblt := Nat.lt_of_lt_of_le hblt b1.size
  clear b1 HCW
  cases q
  case false =>
    go_wp2_with fail
    go_ret
    exact ⟨ret_b (by rw [HK.out]; rfl), hB⟩
  have c0 := HCW1.out 0 r0 rfl
  obtain ⟨l0, hl0⟩ : ∃ l0, letterB r0 = l0 := ⟨_, rfl⟩
  have HLT := Lib.hid (ref01_letter r0 (HSM.out r0 (List.mem_cons_self ..)))
  rw [hl0] at HK HLT
  clear hl0
  go_wp2_with fail
  refine (HLT.out w1).mono ?_
  clear HLT
  rintro e w2 ⟨rfl, rfl⟩
  cases l0
  case false =>
    go_wp2_with fail
    go_ret
    exact ⟨ret_b (by rw [HK.out]; rfl), hB⟩
  clear c0
  go_wp2_with fail
  have HK2 : Hid (keyB s = (r0 :: L).all fun r => partB r false) := Lib.hid (by rw [HK.out]; simp)
  clear HK
  go_loopw [4] (fun v4 wr => KRel w (r0 :: L) w.heap.size v4 wr) (fun v4 _ => n + 1 - (RowKit.intOf v4).toNat)
  case atStart => exact ⟨0, rfl, Nat.zero_le _, HCW1.out, hblt, hB, rfl⟩
  case round =>
    clear HCW1 hB hblt
    obtain ⟨k, rfl, hk, HC0, hblt, hB, hall⟩ := hrel
    rw [HN.out] at hk
    have HC := Lib.hid HC0
    have HALL := Lib.hid hall
    clear HC0 hall
    by_cases hkn : k < n + 1
    · have hkl : k < (r0 :: L).length := by have := HN.out; omega
      obtain ⟨r, hr⟩ : ∃ r, (r0 :: L)[k]'hkl = r := ⟨_, rfl⟩
      have hc := HC.out k r (by rw [List.getElem?_eq_getElem hkl, hr])
      have hrs := HSM.out r (by rw [← hr]; exact List.getElem_mem hkl)
      have hst : ((r0 :: L).drop k).all (fun r => partB r false) = (partB r false && ((r0 :: L).drop (k + 1)).all (fun r => partB r false)) := by
        rw [List.drop_eq_getElem_cons hkl, List.all_cons, hr]
      have HST := Lib.hid hst
      have hkd : decide ((k : Int) < (n : Int) + 1) = true := by simp; omega
      clear hst hr
      have HLT := Lib.hid (ref01_letter r hrs)
      obtain ⟨q, hq⟩ : ∃ q, letterB r = q := ⟨_, rfl⟩
      have HQ := Lib.hid hq
      rw [hq] at HLT
      clear hq
      cases q
      case true =>
        have HP : Hid (partB r false = true) := Lib.hid (partB_letter r HQ.out)
        go_wp2_with fail
        refine (HLT.out wr).mono ?_
        rintro e w2 ⟨rfl, rfl⟩
        go_wp2_with fail
        go_roundw
        case rel => exact ⟨k + 1, by go_num, by rw [HN.out]; omega, HC.out, hblt, hB, by rw [← HALL.out, HST.out, HP.out]; rfl⟩
        case measure => simp [RowKit.intOf]; omega
      case false =>
        have HPB : Hid (partB r false = (decide (48 ≤ r ∧ r ≤ 57) || r == 45 || r == 95)) := Lib.hid (by unfold partB; rw [HQ.out]; rfl)
        have hcase : (partB r false = true ∧ decide (48 ≤ (r : Int)) = true ∧ decide ((r : Int) ≤ 57) = true) ∨ (partB r false = true ∧ decide (48 ≤ (r : Int)) = false ∧ ((r : Int) != 45) = false) ∨ (partB r false = true ∧ decide (48 ≤ (r : Int)) = true ∧ decide ((r : Int) ≤ 57) = false ∧ ((r : Int) != 45) = true ∧ ((r : Int) != 95) = false) ∨
            (partB r false = false ∧ decide (48 ≤ (r : Int)) = false ∧ ((r : Int) != 45) = true ∧ ((r : Int) != 95) = true) ∨ (partB r false = false ∧ decide (48 ≤ (r : Int)) = true ∧ decide ((r : Int) ≤ 57) = false ∧ ((r : Int) != 45) = true ∧ ((r : Int) != 95) = true) := by
          rw [HPB.out]
          simp
          omega
        rcases hcase with ⟨h1, h2, h3⟩ | ⟨h1, h2, h3⟩ | ⟨h1, h2, h3, h4, h5⟩ | ⟨h1, h2, h3, h4⟩ | ⟨h1, h2, h3, h4, h5⟩
        case inl | inr.inl | inr.inr.inl =>
          have HP := Lib.hid h1
          clear h1
          go_wp2_with fail
          refine (HLT.out wr).mono ?_
          rintro e w2 ⟨rfl, rfl⟩
          go_wp2_with fail
          go_roundw
          case rel => exact ⟨k + 1, by go_num, by rw [HN.out]; omega, HC.out, hblt, hB, by rw [← HALL.out, HST.out, HP.out]; rfl⟩
          case measure => simp [RowKit.intOf]; omega
        all_goals
          have HP := Lib.hid h1
          clear h1
          go_wp2_with fail
          refine (HLT.out wr).mono ?_
          rintro e w2 ⟨rfl, rfl⟩
          go_wp2_with fail
          go_ret
          exact ⟨ret_b (by rw [HK2.out, ← HALL.out, HST.out, HP.out]; rfl), hB⟩
    · have hkd : decide ((k : Int) < (n : Int) + 1) = false := by simp; omega
      go_wp2_with fail
      go_ret
      exact ⟨ret_b (by rw [HK2.out, ← HALL.out, List.drop_of_length_le (by rw [HN.out]; omega)]; rfl), hB⟩
end Go.Proofs.YtncdchhpdbmfcaaDoor
