/- Contracts of runes.Quote and of the reference's. -/
import Derived.Test.YtimmfcbpdnlfjaaDoorRnB
import Derived.Test.YtimmfcbpdnlfjaaDoorRnW
import Derived.Test.YtimmfcbpdnlfjaaDoorRnJ
namespace Go.Proofs.YtimmfcbpdnlfjaaDoor
open Go.RowKit Go.Sort Go.Lib

theorem str_is (l : List UInt8) (t : ByteArray) (h : bl t = l) : t = ⟨l.toArray⟩ := by rw [← h]; exact bl_is t
theorem q1_of {s : ByteArray} {k r d : Nat} (hk : k < s.size) (hD : Utf8.decode s k = (r, d)) : q1 s k = if toEsc (badD r d) s[k] then escB s[k] else if s[k].toNat = 34 ∨ s[k].toNat = 92 then [92, s[k]] else ((bl s).drop k).take d := by
  unfold q1
  rw [hD, get!_eq s k hk]

set_option maxRecDepth 100000 in
set_option maxHeartbeats 4000000 in
theorem runes_Quote (s : ByteArray) (hs : s.size ≤ 1000000000) (w : World) (hT : Tabs w) : Calls Tryd.prog 46 #[.string s] w fun e w' => e = .returned (.string ⟨(quoteP s).toArray⟩) ∧ Below w.heap.size w w' := by
  have hsm : s.size ≤ maxLen := by unfold maxLen; omega
  obtain ⟨Q, hQ⟩ : ∃ Q, quoteP s = Q := ⟨_, rfl⟩
  have HQ := Lib.hid hQ
  have HT := Lib.hid hT
  have HSM := Lib.hid hsm
  rw [hQ]
  clear hQ hT hsm
  go_enter Tryd.func46, Tryd.ntmps46
  go_wp2_with fail
  go_loopw [3, 4, 5, 16, 35] (fun v3 _ _ _ _ wr => ∃ (k : Nat) (t : ByteArray), v3 = .string t ∧ k ≤ s.size ∧ t.size ≤ 4 * k + 1 ∧ It wr w.heap.size s k ∧ w.heap.size < wr.heap.size ∧ Below w.heap.size w wr ∧ bl t ++ (bq s k ++ [34]) = Q) (fun _ _ _ _ _ wr => s.size - wr.iterPos w.heap.size)
  case atStart => exact ⟨0, ⟨#[34]⟩, rfl, Nat.zero_le _, by decide, It.new _ _ _, (It.new _ _ _).lt, below_iter (Below.refl _ _) (Nat.le_refl _) _ _, by rw [← HQ.out]; rfl⟩
  case round =>
    obtain ⟨k, t, rfl, hks, htk, BI, hlt, hB, hI⟩ := hrel
    have HPOS := Lib.hid BI.pos
    have HI := Lib.hid hI
    clear hI
    by_cases hk : k < s.size
    · obtain ⟨r, d, hD, hd1, hr, hcase⟩ := decode_some s k hk
      have hnx : ∀ ty, (Instr.next (.pointer (some ⟨w.heap.size, 0, none⟩)) true ty).run Tryd.prog wr = .ok (.tuple #[.bool true, .int .i64 k, .int .i32 r]) (wr.iterAt w.heap.size s (k + d)) := by
        intro ty
        rw [Lib.run_next_any_at wr _ s k ty BI hk, hD]
      have BI2 := BI.at_ (k + d)
      have hB2 := Lib.below_iterAt hB (k := w.heap.size) (Nat.le_refl _) s (k + d)
      have hlt2 := BI2.lt
      have HC := Lib.hid (runes_bad s k r d hD hk HSM.out (wr.iterAt w.heap.size s (k + d)) (HT.out.below hB2))
      have hq1 := q1_of hk hD
      have HX : Hid (∀ t2 : ByteArray, bl t2 = bl t ++ q1 s k → bl t2 ++ (bq s (k + d) ++ [34]) = Q) := Lib.hid (fun t2 h2 => by
        rw [h2, List.append_assoc, ← List.append_assoc (q1 s k), ← bq_step s k hk hD hd1]
        exact HI.out)
      obtain ⟨E, hEn⟩ : ∃ E : ByteArray, Utf8.encode (r : Int) = E := ⟨_, rfl⟩
      have hen : E.size ≤ 4 := by rw [← hEn]; exact encode_size_le _
      have HENC : Hid (¬ (r = 65533 ∧ d < 2) → bl E = ((bl s).drop k).take d) := Lib.hid (fun h => by rw [← hEn]; exact enc_decode s k hk hD h)
      have HEn := Lib.hid hEn
      clear hEn
      have HQ1 := Lib.hid hq1
      have hkd := (rune_tail s k hk hD).1
      have hel : (escB s[k]).length = 4 := rfl
      have HCA := Lib.hid hcase
      have HBD := Lib.hid (bl_drop s k hk)
      clear hD BI hB hlt hq1 hcase
      generalize wr.iterAt w.heap.size s (k + d) = w2 at *
      go_wp2_with fail
      refine HC.out.mono ?_
      clear HC hnx
      rintro e w3 ⟨rfl, b3⟩
      replace BI2 := BI2.below b3 hlt2
      replace hB2 := hB2.trans (b3.mono hB2.size)
      replace hlt2 := Nat.lt_of_lt_of_le hlt2 b3.size
      clear b3
      obtain ⟨q, hq⟩ : ∃ q, badD r d = q := ⟨_, rfl⟩
      have HBq := Lib.hid hq
      rw [hq]
      clear hq
      have hesc : ∀ (_ : q = true ∨ r < 32 ∨ r = 127), toEsc (badD r d) s[k] = true := by
        intro h
        rw [HBq.out]
        unfold toEsc
        rcases h with h | h | h
        · simp [h]
        · have := HCA.out
          simp
          omega
        · have := HCA.out
          simp
          omega
      have hnesc : ∀ (_ : q = false) (_ : ¬ r < 32) (_ : ¬ r = 127), toEsc (badD r d) s[k] = false := by
        intro h h1 h2
        rw [HBq.out, h]
        unfold toEsc
        have := HCA.out
        simp
        omega
      have HESC := Lib.hid hesc
      have HNESC := Lib.hid hnesc
      clear hesc hnesc
      have tail_ok := HX.out
      by_cases hE : q = true ∨ r < 32 ∨ r = 127
      · have HE := Lib.hid (runes_escaped s[k])
        have SZ : (t ++ ⟨(escB s[k]).toArray⟩).size ≤ 4 * (k + d) + 1 := by
          rw [ByteArray.size_append, show (⟨(escB s[k]).toArray⟩ : ByteArray).size = 4 from rfl]
          omega
        have HX2 : Hid (bl (t ++ ⟨(escB s[k]).toArray⟩) ++ (bq s (k + d) ++ [34]) = Q) := Lib.hid (HX.out _ (by rw [bl_append, show bl ⟨(escB s[k]).toArray⟩ = escB s[k] from bl_mk _, HQ1.out, if_pos (HESC.out hE)]))
        clear tail_ok
        rcases hE with hE | hE | hE
        case' inl => subst hE
        case' inr.inl =>
          have hl32 : decide ((r : Int) < 32) = true := by simp; omega
          cases q
        case' inr.inr =>
          subst hE
          cases q
        all_goals
          go_wp2_with fail
          refine (HE.out _).mono ?_
          rintro e w4 ⟨rfl, b4⟩
          replace BI2 := BI2.below b4 hlt2
          replace hB2 := hB2.trans (b4.mono hB2.size)
          replace hlt2 := Nat.lt_of_lt_of_le hlt2 b4.size
          go_wp2_with fail
          go_roundw
          case rel => exact ⟨k + d, _, rfl, hkd, SZ, BI2, hlt2, hB2, HX2.out⟩
          case measure => rw [BI2.pos, HPOS.out]; omega
      · have hqf : q = false := by
          cases q
          · rfl
          · exact absurd (.inl rfl) hE
        subst hqf
        have h32 : decide ((r : Int) < 32) = false := by simp; omega
        have h127 : ((r : Int) == 127) = false := by simp; omega
        have hne := HNESC.out rfl (by omega) (by omega)
        have HNE := Lib.hid hne
        clear tail_ok hne
        by_cases hsg : r = 34 ∨ r = 92
        · have hsk : s[k].toNat = r ∧ d = 1 := by have := HCA.out; omega
          obtain ⟨hsk, rfl⟩ := hsk
          have henc : bl (E) = [s[k]] := by
            rw [HENC.out (by omega), HBD.out]
            rfl
          have SZ : (t ++ (⟨#[92]⟩ ++ E)).size ≤ 4 * (k + 1) + 1 := by
            rw [← bl_length, bl_append, bl_append, henc, List.length_append, bl_length]
            show t.size + 2 ≤ _
            omega
          have HX2 : Hid (bl (t ++ (⟨#[92]⟩ ++ E)) ++ (bq s (k + 1) ++ [34]) = Q) := Lib.hid (HX.out _ (by
            rw [bl_append, bl_append, henc, HQ1.out, HNE.out, if_neg (by simp), if_pos (by omega)]
            rfl))
          clear henc hsk
          have hEn := HEn.out
          rcases hsg with hsg | hsg
          · have h34 : ((r : Int) == 34) = true := by simp; omega
            clear hsg
            go_wp2_with fail
            go_roundw
            case rel => exact ⟨k + 1, _, rfl, hkd, SZ, BI2, hlt2, hB2, HX2.out⟩
            case measure => rw [BI2.pos, HPOS.out]; omega
          · have h34 : ((r : Int) == 34) = false := by simp; omega
            have h92 : ((r : Int) == 92) = true := by simp; omega
            clear hsg
            go_wp2_with fail
            go_roundw
            case rel => exact ⟨k + 1, _, rfl, hkd, SZ, BI2, hlt2, hB2, HX2.out⟩
            case measure => rw [BI2.pos, HPOS.out]; omega
        · have h34 : ((r : Int) == 34) = false := by simp; omega
          have h92 : ((r : Int) == 92) = false := by simp; omega
          have SZ : (t ++ E).size ≤ 4 * (k + d) + 1 := by
            rw [ByteArray.size_append]
            omega
          have HX2 : Hid (bl (t ++ E) ++ (bq s (k + d) ++ [34]) = Q) := Lib.hid (HX.out _ (by
            have hb := HBq.out
            rw [bl_append, HENC.out (by unfold badD at hb; simpa using hb), HQ1.out, HNE.out, if_neg (by simp), if_neg (by have := HCA.out; omega)]))
          have hEn := HEn.out
          go_wp2_with fail
          go_roundw
          case rel => exact ⟨k + d, _, rfl, hkd, SZ, BI2, hlt2, hB2, HX2.out⟩
          case measure => rw [BI2.pos, HPOS.out]; omega
    · have hnx : ∀ ty, (Instr.next (.pointer (some ⟨w.heap.size, 0, none⟩)) true ty).run Tryd.prog wr = .ok (.tuple #[.bool false]) wr := fun ty => Lib.run_next_end_at wr _ s k ty BI hk
      have HX2 : Hid (t ++ ⟨#[34]⟩ = ⟨Q.toArray⟩) := Lib.hid (str_is _ _ (by
        have := HI.out
        rw [bq_end s k (by omega)] at this
        rw [bl_append]
        exact this))
      go_wp2_with fail
      go_ret
      exact ⟨by rw [← HX2.out]; rfl, hB⟩
end Go.Proofs.YtimmfcbpdnlfjaaDoor
