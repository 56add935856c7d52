/- Contracts of runes.end and runes.Words. -/
import Derived.Test.YtedegdojbhegdaaDoorRnP
import Derived.Test.YtedegdojbhegdaaDoorStrs
import Derived.Test.YtedegdojbhegdaaDoorKeep
import Derived.Lib.OthersKept
import Derived.Deep.Cut
namespace Go.Proofs.YtedegdojbhegdaaDoor
open Go.RowKit Go.Sort Go.Lib

theorem ret_i {a b : Int} (h : a = b) : Ending.returned (.int .i64 a) = .returned (.int .i64 b) := by rw [h]
theorem u8_eq_iff (c : UInt8) (n : Nat) (h : n < 256) : c = UInt8.ofNat n ↔ c.toNat = n := by
  constructor
  · rintro rfl
    rw [UInt8.toNat_ofNat', Nat.mod_eq_of_lt h]
  · intro e
    apply UInt8.toNat_inj.1
    rw [UInt8.toNat_ofNat', Nat.mod_eq_of_lt h, e]

/-- What the loop of end knows at the place k. -/
def EndI (l : List UInt8) (q esc : Bool) (k : Nat) : Prop := if k = 0 then esc = false else wend q esc k (l.drop k) = endP l
set_option maxRecDepth 100000 in
set_option maxHeartbeats 2000000 in
theorem runes_end (s : ByteArray) (h0 : 0 < s.size) (hs : s.size ≤ 9223372036854775000) (w : World) : Calls Tryd.prog 48 #[.string s] w fun e w' => e = .returned (.int .i64 (endP (bl s) : Nat)) ∧ Below w.heap.size w w' := by
  have hl := bl_length s
  have hb0 := bl_drop s 0 h0
  rw [List.drop_zero] at hb0
  obtain ⟨q, hq⟩ : ∃ q : Bool, (s[0] == 34) = q := ⟨_, rfl⟩
  have hqi : ((s[0].toNat : Int) == 34) = q := by
    rw [← hq, Bool.eq_iff_iff]
    have := u8_eq_iff s[0] 34 (by omega)
    simp
    constructor
    · intro h; exact this.2 (by omega)
    · intro h; have := this.1 h; omega
  have hE : endP (bl s) = wend q false 1 ((bl s).drop 1) := by
    conv => lhs; rw [hb0]
    rw [endP, hq]
  obtain ⟨E, hEE⟩ : ∃ E, endP (bl s) = E := ⟨_, rfl⟩
  have HE := Lib.hid hE
  have HEE := Lib.hid hEE
  have HL := Lib.hid hl
  rw [hEE]
  clear hE hEE hb0 hl hq
  go_enter Tryd.func48, Tryd.ntmps48
  go_wp2_with fail
  go_loopw [4, 5, 6, 16, 19, 21, 27, 35] (fun v4 _ _ _ _ _ _ _ wr => ∃ (k : Nat) (esc : Bool), v4 = .bool esc ∧ k ≤ s.size ∧ It wr w.heap.size s k ∧ Below w.heap.size w wr ∧ EndI (bl s) q esc k) (fun _ _ _ _ _ _ _ _ wr => s.size - wr.iterPos w.heap.size)
  case atStart => exact ⟨0, false, rfl, Nat.zero_le _, It.new _ _ _, below_iter (Below.refl _ _) (Nat.le_refl _) _ _, by simp [EndI]⟩
  case round =>
    obtain ⟨k, esc, rfl, hks, BI, hB, hI⟩ := hrel
    have hpos := BI.pos
    have HPOS := Lib.hid hpos
    by_cases hk : k < s.size
    · obtain ⟨r, d, hD, hd1, hr, hcase⟩ := decode_some s k hk
      have hnx : ∀ ty, (Instr.next (.pointer (some ⟨w.heap.size, 0, none⟩)) true ty).run Tryd.prog wr = .ok (.tuple #[.bool true, .int .i64 k, .int .i32 r]) (wr.iterAt w.heap.size s (k + d)) := by
        intro ty
        rw [Lib.run_next_any_at wr _ s k ty BI hk, hD]
      have BI2 := BI.at_ (k + d)
      have hB2 := Lib.below_iterAt hB (k := w.heap.size) (Nat.le_refl _) s (k + d)
      have hkd := (rune_tail s k hk hD).1
      have hrune := wend_rune q s k hk hD hd1
      have HRU := Lib.hid hrune
      have hbd := bl_drop s k hk
      have HBD := Lib.hid hbd
      have HCA := Lib.hid hcase
      have HI := Lib.hid hI
      clear hD BI hB hrune hbd hI hpos hcase
      have hnz : k + d ≠ 0 := by omega
      by_cases hk0 : k = 0
      · subst hk0
        have hef : esc = false := by have := HI.out; unfold EndI at this; rwa [if_pos rfl] at this
        subst hef
        have hru := HRU.out
        simp only [Nat.zero_add] at BI2 hB2 hnx hnz hkd hru
        have HRU2 := Lib.hid hru
        clear hru
        go_wp2_with fail
        go_roundw
        case rel =>
          refine ⟨d, false, rfl, by omega, BI2, hB2, ?_⟩
          unfold EndI
          rw [if_neg hnz, ← HRU2.out, ← HE.out]
        case measure => rw [BI2.pos, HPOS.out]; omega
      · have hkz : ((k : Int) == 0) = false := by simp; omega
        have hI2 : wend q esc k (s[k] :: (bl s).drop (k + 1)) = endP (bl s) := by have := HI.out; unfold EndI at this; rw [if_neg hk0, HBD.out] at this; exact this
        have HI2 := Lib.hid hI2
        clear hI2 HI
        cases esc
        case true =>
          go_wp2_with fail
          go_roundw
          case rel =>
            refine ⟨k + d, false, rfl, by omega, BI2, hB2, ?_⟩
            unfold EndI
            rw [if_neg hnz, ← HRU.out, ← HI2.out, wend_esc]
          case measure => rw [BI2.pos, HPOS.out]; omega
        case false =>
          have hplain : (¬ (q = true ∧ s[k] = 92)) → (¬ (q = true ∧ s[k] = 34)) → (¬ (q = false ∧ s[k] = 32)) → EndI (bl s) q false (k + d) := fun h1 h2 h3 => by
            unfold EndI
            rw [if_neg hnz, ← HRU.out, ← HI2.out, wend_cons, if_neg h1, if_neg h2, if_neg h3]
          have h92 := u8_eq_iff s[k] 92 (by omega)
          have h34 := u8_eq_iff s[k] 34 (by omega)
          have h32 := u8_eq_iff s[k] 32 (by omega)
          have HP := Lib.hid hplain
          have H92 := Lib.hid h92
          have H34 := Lib.hid h34
          have H32 := Lib.hid h32
          clear hplain h92 h34 h32
          cases q
          case false =>
            by_cases hr32 : r = 32
            · subst hr32
              have hsk : s[k].toNat = 32 := by have := HCA.out; omega
              have HR : Hid (k = E) := Lib.hid (by
                have := HI2.out
                rw [wend_cons, if_neg (by simp), if_neg (by simp), if_pos ⟨rfl, H32.out.2 hsk⟩, HEE.out] at this
                exact this)
              clear hsk
              go_wp2_with fail
              go_ret
              exact ⟨ret_i (by rw [← HR.out]), hB2⟩
            · have hne : ((r : Int) == 32) = false := by simp; omega
              have HX : Hid (EndI (bl s) false false (k + d)) := Lib.hid (HP.out (by simp) (by simp) (fun h => hr32 (by have := HCA.out; have := H32.out.1 h.2; omega)))
              go_wp2_with fail
              go_roundw
              case rel => exact ⟨k + d, false, rfl, by omega, BI2, hB2, HX.out⟩
              case measure => rw [BI2.pos, HPOS.out]; omega
          case true =>
            by_cases hr92 : r = 92
            · subst hr92
              have hsk : s[k].toNat = 92 ∧ d = 1 := by have := HCA.out; omega
              obtain ⟨hsk, rfl⟩ := hsk
              have HX : Hid (EndI (bl s) true true (k + 1)) := Lib.hid (by
                unfold EndI
                rw [if_neg (by omega), ← HI2.out, wend_cons, if_pos ⟨rfl, H92.out.2 hsk⟩])
              clear hsk
              go_wp2_with fail
              go_roundw
              case rel => exact ⟨k + 1, true, rfl, by omega, BI2, hB2, HX.out⟩
              case measure => rw [BI2.pos, HPOS.out]; omega
            · have hne : ((r : Int) == 92) = false := by simp; omega
              by_cases hr34 : r = 34
              · subst hr34
                have hsk : s[k].toNat = 34 := by have := HCA.out; omega
                have HR : Hid (k + 1 = E) := Lib.hid (by
                  have := HI2.out
                  rw [wend_cons, if_neg (fun h => hr92 (by have := H92.out.1 h.2; omega)), if_pos ⟨rfl, H34.out.2 hsk⟩, HEE.out] at this
                  exact this)
                clear hsk
                go_wp2_with fail
                go_ret
                exact ⟨ret_i (by rw [← HR.out]; omega), hB2⟩
              · have hne2 : ((r : Int) == 34) = false := by simp; omega
                have HX : Hid (EndI (bl s) true false (k + d)) := Lib.hid (HP.out (fun h => hr92 (by have := HCA.out; have := H92.out.1 h.2; omega)) (fun h => hr34 (by have := HCA.out; have := H34.out.1 h.2; omega)) (by simp))
                go_wp2_with fail
                go_roundw
                case rel => exact ⟨k + d, false, rfl, by omega, BI2, hB2, HX.out⟩
                case measure => rw [BI2.pos, HPOS.out]; omega
    · have hnx : ∀ ty, (Instr.next (.pointer (some ⟨w.heap.size, 0, none⟩)) true ty).run Tryd.prog wr = .ok (.tuple #[.bool false]) wr := fun ty => Lib.run_next_end_at wr _ s k ty BI hk
      have HR : Hid (s.size = E) := Lib.hid (by
        unfold EndI at hI
        rw [if_neg (by omega), List.drop_of_length_le (by have := HL.out; omega), HEE.out] at hI
        have : k = s.size := by omega
        cases esc <;> simp [wend] at hI <;> omega)
      clear hI
      go_wp2_with fail
      go_ret
      exact ⟨ret_i (by rw [← HR.out]), hB⟩
end Go.Proofs.YtedegdojbhegdaaDoor
