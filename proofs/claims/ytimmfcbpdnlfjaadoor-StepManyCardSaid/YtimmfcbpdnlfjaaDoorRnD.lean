/- Plain: the words of a line; the bytes of a rune. No program is named here. Contracts of runes.end and runes.Words. Contract of runes.Words. -/
import Derived.Test.YtimmfcbpdnlfjaaDoorRunes
import Derived.Lib.SpaceUEq
import Derived.Lib.TrimUEq
import Derived.Test.YtimmfcbpdnlfjaaDoorStrs
import Derived.Test.YtimmfcbpdnlfjaaDoorKeep
import Derived.Lib.OthersKept
import Derived.Deep.Cut
import Derived.Deep.DeepMust
namespace Go.Proofs.YtimmfcbpdnlfjaaDoor
open Go.Lib

theorem bl_get (s : ByteArray) (k : Nat) (hk : k < s.size) : (bl s)[k]'(by rw [bl_length]; exact hk) = s[k] := rfl
theorem get!_eq (s : ByteArray) (k : Nat) (hk : k < s.size) : s.get! k = s[k] := by
  show s.data[k]! = s.data[k]
  rw [getElem!_pos s.data k hk]
/-- The bytes behind a rune's first one are none below 128; it ends within the text. -/
theorem rune_tail (s : ByteArray) (k : Nat) (hk : k < s.size) {r d : Nat} (hD : Utf8.decode s k = (r, d)) : k + d ≤ s.size ∧ ∀ j (_ : k < j) (_ : j < k + d) (h3 : j < s.size), 128 ≤ s[j].toNat := by
  rw [decode_at] at hD
  obtain ⟨h1, h2, h3, h4⟩ := decodeN_conts (s.size - k) (s.get! k).toNat (s.get! (k + 1)).toNat (s.get! (k + 2)).toNat (s.get! (k + 3)).toNat
  rw [hD] at h1 h2 h3 h4
  dsimp only at h1 h2 h3 h4
  refine ⟨?_, fun j hj1 hj2 hj3 => ?_⟩
  · rcases Nat.lt_or_ge d 2 with h | h
    · omega
    · have := (h1 h).2
      rcases Nat.lt_or_ge d 3 with h | h
      · omega
      · have := (h2 h).2
        rcases Nat.lt_or_ge d 4 with h | h
        · omega
        · have := (h3 h).2
          omega
  · have hc : j = k + 1 ∨ j = k + 2 ∨ j = k + 3 := by omega
    rcases hc with rfl | rfl | rfl
    · have := (h1 (by omega)).1
      rw [get!_eq s _ hj3] at this
      omega
    · have := (h2 (by omega)).1
      rw [get!_eq s _ hj3] at this
      omega
    · have := (h3 (by omega)).1
      rw [get!_eq s _ hj3] at this
      omega

/-- Where the word ends whose bytes from the place i on are these. -/
def wend (q : Bool) : Bool → Nat → List UInt8 → Nat
  | _, i, [] => i
  | true, i, _ :: r => wend q false (i + 1) r
  | false, i, c :: r => if q = true ∧ c = 92 then wend q true (i + 1) r else if q = true ∧ c = 34 then i + 1 else if q = false ∧ c = 32 then i else wend q false (i + 1) r
def endP : List UInt8 → Nat
  | [] => 0
  | c :: r => wend (c == 34) false 1 r
theorem wend_cons (q : Bool) (i : Nat) (c : UInt8) (r : List UInt8) : wend q false i (c :: r) = if q = true ∧ c = 92 then wend q true (i + 1) r else if q = true ∧ c = 34 then i + 1 else if q = false ∧ c = 32 then i else wend q false (i + 1) r := rfl
theorem wend_esc (q : Bool) (i : Nat) (c : UInt8) (r : List UInt8) : wend q true i (c :: r) = wend q false (i + 1) r := rfl
theorem wend_le (q : Bool) : ∀ (l : List UInt8) (esc : Bool) (i : Nat), i ≤ wend q esc i l ∧ wend q esc i l ≤ i + l.length
  | [], esc, i => by cases esc <;> simp [wend]
  | c :: r, true, i => by
    have := wend_le q r false (i + 1)
    simp only [wend, List.length_cons]
    omega
  | c :: r, false, i => by
    have h1 := wend_le q r false (i + 1)
    have h2 := wend_le q r true (i + 1)
    unfold wend
    simp only [List.length_cons]
    split
    · omega
    · split
      · omega
      · split
        · omega
        · omega
theorem endP_le (l : List UInt8) : endP l ≤ l.length ∧ (l ≠ [] → 1 ≤ endP l) := by
  cases l with
  | nil => simp [endP]
  | cons c r =>
    have := wend_le (c == 34) r false 1
    simp only [endP, List.length_cons]
    exact ⟨by omega, fun _ => by omega⟩
theorem wend_high (q : Bool) (c : UInt8) (r : List UInt8) (i : Nat) (h : 128 ≤ c.toNat) : wend q false i (c :: r) = wend q false (i + 1) r := by
  have h1 : c ≠ 92 := by rintro rfl; simp at h
  have h2 : c ≠ 34 := by rintro rfl; simp at h
  have h3 : c ≠ 32 := by rintro rfl; simp at h
  rw [wend_cons, if_neg (fun h => h1 h.2), if_neg (fun h => h2 h.2), if_neg (fun h => h3 h.2)]
theorem wend_skip (q : Bool) : ∀ (m : Nat) (l : List UInt8) (i : Nat), m ≤ l.length → (∀ j (_ : j < m) (h2 : j < l.length), 128 ≤ l[j].toNat) → wend q false i l = wend q false (i + m) (l.drop m)
  | 0, l, i, _, _ => rfl
  | m + 1, [], i, h, _ => by simp at h
  | m + 1, c :: r, i, hl, h => by
    have h0 := h 0 (by omega) (by simp)
    rw [wend_high q c r i (by simpa using h0), wend_skip q m r (i + 1) (by simpa using hl) (fun j hj h2 => by
      have := h (j + 1) (by omega) (by simpa using h2)
      simpa using this)]
    rw [List.drop_succ_cons, show i + 1 + m = i + (m + 1) by omega]
/-- Behind a whole rune that is no sign of its own. -/
theorem wend_rune (q : Bool) (s : ByteArray) (k : Nat) (hk : k < s.size) {r d : Nat} (hD : Utf8.decode s k = (r, d)) (hd : 1 ≤ d) : wend q false (k + 1) ((bl s).drop (k + 1)) = wend q false (k + d) ((bl s).drop (k + d)) := by
  obtain ⟨h1, h2⟩ := rune_tail s k hk hD
  have hl := bl_length s
  rw [wend_skip q (d - 1) ((bl s).drop (k + 1)) (k + 1) (by rw [List.length_drop]; omega) (fun j hj h3 => by
    rw [List.getElem_drop, bl_get s _ (by omega)]
    exact h2 _ (by omega) (by omega) (by omega))]
  rw [List.drop_drop, show k + 1 + (d - 1) = k + d by omega]
theorem bl_drop (s : ByteArray) (k : Nat) (hk : k < s.size) : (bl s).drop k = s[k] :: (bl s).drop (k + 1) := by
  rw [List.drop_eq_getElem_cons (by rw [bl_length]; exact hk), bl_get s k hk]

def wordsF : Nat → List UInt8 → List (List UInt8)
  | 0, _ => []
  | _ + 1, [] => []
  | f + 1, c :: r => if c = 32 then wordsF f r else (c :: r).take (endP (c :: r)) :: wordsF f ((c :: r).drop (endP (c :: r)))
theorem wordsF_cons (f : Nat) (c : UInt8) (r : List UInt8) : wordsF (f + 1) (c :: r) = if c = 32 then wordsF f r else (c :: r).take (endP (c :: r)) :: wordsF f ((c :: r).drop (endP (c :: r))) := rfl
theorem wordsF_fuel : ∀ (f g : Nat) (l : List UInt8), l.length ≤ f → l.length ≤ g → wordsF f l = wordsF g l
  | 0, 0, _, _, _ => rfl
  | 0, g + 1, l, h, _ => by
    have : l = [] := List.eq_nil_of_length_eq_zero (by omega)
    subst this
    rfl
  | f + 1, 0, l, _, h => by
    have : l = [] := List.eq_nil_of_length_eq_zero (by omega)
    subst this
    rfl
  | f + 1, g + 1, [], _, _ => rfl
  | f + 1, g + 1, c :: r, h1, h2 => by
    have he := (endP_le (c :: r)).2 (by simp)
    simp only [List.length_cons] at h1 h2
    rw [wordsF_cons, wordsF_cons]
    rw [wordsF_fuel f g r (by omega) (by omega), wordsF_fuel f g _ (by rw [List.length_drop, List.length_cons]; omega) (by rw [List.length_drop, List.length_cons]; omega)]
/-- The words of a line. -/
def wordsP (l : List UInt8) : List (List UInt8) := wordsF l.length l
theorem wordsP_nil : wordsP [] = [] := rfl
theorem wordsP_blank (r : List UInt8) : wordsP (32 :: r) = wordsP r := by
  unfold wordsP
  rw [List.length_cons, wordsF_cons, if_pos rfl]
theorem wordsP_word (c : UInt8) (r : List UInt8) (hc : c ≠ 32) : wordsP (c :: r) = (c :: r).take (endP (c :: r)) :: wordsP ((c :: r).drop (endP (c :: r))) := by
  have he := (endP_le (c :: r)).2 (by simp)
  unfold wordsP
  rw [List.length_cons, wordsF_cons, if_neg hc]
  congr 1
  exact wordsF_fuel _ _ _ (by rw [List.length_drop, List.length_cons]; omega) (Nat.le_refl _)
end Go.Proofs.YtimmfcbpdnlfjaaDoor

namespace Go.Proofs.YtimmfcbpdnlfjaaDoor
open Go.RowKit Go.Sort Go.Lib

theorem ret_i {a b : Int} (h : a = b) : Ending.returned (.int .i64 a) = .returned (.int .i64 b) := by rw [h]
theorem u8_eq_iff (c : UInt8) (n : Nat) (h : n < 256) : c = UInt8.ofNat n ↔ c.toNat = n := by
  constructor
  · rintro rfl
    rw [UInt8.toNat_ofNat', Nat.mod_eq_of_lt h]
  · intro e
    apply UInt8.toNat_inj.1
    rw [UInt8.toNat_ofNat', Nat.mod_eq_of_lt h, e]

/-- What the loop of end knows at the place k. -/
def EndI (l : List UInt8) (q esc : Bool) (k : Nat) : Prop := if k = 0 then esc = false else wend q esc k (l.drop k) = endP l
set_option maxRecDepth 100000 in
set_option maxHeartbeats 2000000 in
theorem runes_end (s : ByteArray) (h0 : 0 < s.size) (hs : s.size ≤ 9223372036854775000) (w : World) : Calls Tryd.prog 34 #[.string s] w fun e w' => e = .returned (.int .i64 (endP (bl s) : Nat)) ∧ Below w.heap.size w w' := by
  have hl := bl_length s
  have hb0 := bl_drop s 0 h0
  rw [List.drop_zero] at hb0
  obtain ⟨q, hq⟩ : ∃ q : Bool, (s[0] == 34) = q := ⟨_, rfl⟩
  have hqi : ((s[0].toNat : Int) == 34) = q := by
    rw [← hq, Bool.eq_iff_iff]
    have := u8_eq_iff s[0] 34 (by omega)
    simp
    constructor
    · intro h; exact this.2 (by omega)
    · intro h; have := this.1 h; omega
  have hE : endP (bl s) = wend q false 1 ((bl s).drop 1) := by
    conv => lhs; rw [hb0]
    rw [endP, hq]
  obtain ⟨E, hEE⟩ : ∃ E, endP (bl s) = E := ⟨_, rfl⟩
  have HE := Lib.hid hE
  have HEE := Lib.hid hEE
  have HL := Lib.hid hl
  rw [hEE]
  clear hE hEE hb0 hl hq
  go_enter Tryd.func34, Tryd.ntmps34
  go_wp2_with fail
  go_loopw [4, 5, 6, 16, 19, 21, 27, 35] (fun v4 _ _ _ _ _ _ _ wr => ∃ (k : Nat) (esc : Bool), v4 = .bool esc ∧ k ≤ s.size ∧ It wr w.heap.size s k ∧ Below w.heap.size w wr ∧ EndI (bl s) q esc k) (fun _ _ _ _ _ _ _ _ wr => s.size - wr.iterPos w.heap.size)
  case atStart => exact ⟨0, false, rfl, Nat.zero_le _, It.new _ _ _, below_iter (Below.refl _ _) (Nat.le_refl _) _ _, by simp [EndI]⟩
  case round =>
    obtain ⟨k, esc, rfl, hks, BI, hB, hI⟩ := hrel
    have hpos := BI.pos
    have HPOS := Lib.hid hpos
    by_cases hk : k < s.size
    · obtain ⟨r, d, hD, hd1, hr, hcase⟩ := decode_some s k hk
      have hnx : ∀ ty, (Instr.next (.pointer (some ⟨w.heap.size, 0, none⟩)) true ty).run Tryd.prog wr = .ok (.tuple #[.bool true, .int .i64 k, .int .i32 r]) (wr.iterAt w.heap.size s (k + d)) := by
        intro ty
        rw [Lib.run_next_any_at wr _ s k ty BI hk, hD]
      have BI2 := BI.at_ (k + d)
      have hB2 := Lib.below_iterAt hB (k := w.heap.size) (Nat.le_refl _) s (k + d)
      have hkd := (rune_tail s k hk hD).1
      have hrune := wend_rune q s k hk hD hd1
      have HRU := Lib.hid hrune
      have hbd := bl_drop s k hk
      have HBD := Lib.hid hbd
      have HCA := Lib.hid hcase
      have HI := Lib.hid hI
      clear hD BI hB hrune hbd hI hpos hcase
      have hnz : k + d ≠ 0 := by omega
      by_cases hk0 : k = 0
      · subst hk0
        have hef : esc = false := by have := HI.out; unfold EndI at this; rwa [if_pos rfl] at this
        subst hef
        have hru := HRU.out
        simp only [Nat.zero_add] at BI2 hB2 hnx hnz hkd hru
        have HRU2 := Lib.hid hru
        clear hru
        go_wp2_with fail
        go_roundw
        case rel =>
          refine ⟨d, false, rfl, by omega, BI2, hB2, ?_⟩
          unfold EndI
          rw [if_neg hnz, ← HRU2.out, ← HE.out]
        case measure => rw [BI2.pos, HPOS.out]; omega
      · have hkz : ((k : Int) == 0) = false := by simp; omega
        have hI2 : wend q esc k (s[k] :: (bl s).drop (k + 1)) = endP (bl s) := by have := HI.out; unfold EndI at this; rw [if_neg hk0, HBD.out] at this; exact this
        have HI2 := Lib.hid hI2
        clear hI2 HI
        cases esc
        case true =>
          go_wp2_with fail
          go_roundw
          case rel =>
            refine ⟨k + d, false, rfl, by omega, BI2, hB2, ?_⟩
            unfold EndI
            rw [if_neg hnz, ← HRU.out, ← HI2.out, wend_esc]
          case measure => rw [BI2.pos, HPOS.out]; omega
        case false =>
          have hplain : (¬ (q = true ∧ s[k] = 92)) → (¬ (q = true ∧ s[k] = 34)) → (¬ (q = false ∧ s[k] = 32)) → EndI (bl s) q false (k + d) := fun h1 h2 h3 => by
            unfold EndI
            rw [if_neg hnz, ← HRU.out, ← HI2.out, wend_cons, if_neg h1, if_neg h2, if_neg h3]
          have h92 := u8_eq_iff s[k] 92 (by omega)
          have h34 := u8_eq_iff s[k] 34 (by omega)
          have h32 := u8_eq_iff s[k] 32 (by omega)
          have HP := Lib.hid hplain
          have H92 := Lib.hid h92
          have H34 := Lib.hid h34
          have H32 := Lib.hid h32
          clear hplain h92 h34 h32
          cases q
          case false =>
            by_cases hr32 : r = 32
            · subst hr32
              have hsk : s[k].toNat = 32 := by have := HCA.out; omega
              have HR : Hid (k = E) := Lib.hid (by
                have := HI2.out
                rw [wend_cons, if_neg (by simp), if_neg (by simp), if_pos ⟨rfl, H32.out.2 hsk⟩, HEE.out] at this
                exact this)
              clear hsk
              go_wp2_with fail
              go_ret
              exact ⟨ret_i (by rw [← HR.out]), hB2⟩
            · have hne : ((r : Int) == 32) = false := by simp; omega
              have HX : Hid (EndI (bl s) false false (k + d)) := Lib.hid (HP.out (by simp) (by simp) (fun h => hr32 (by have := HCA.out; have := H32.out.1 h.2; omega)))
              go_wp2_with fail
              go_roundw
              case rel => exact ⟨k + d, false, rfl, by omega, BI2, hB2, HX.out⟩
              case measure => rw [BI2.pos, HPOS.out]; omega
          case true =>
            by_cases hr92 : r = 92
            · subst hr92
              have hsk : s[k].toNat = 92 ∧ d = 1 := by have := HCA.out; omega
              obtain ⟨hsk, rfl⟩ := hsk
              have HX : Hid (EndI (bl s) true true (k + 1)) := Lib.hid (by
                unfold EndI
                rw [if_neg (by omega), ← HI2.out, wend_cons, if_pos ⟨rfl, H92.out.2 hsk⟩])
              clear hsk
              go_wp2_with fail
              go_roundw
              case rel => exact ⟨k + 1, true, rfl, by omega, BI2, hB2, HX.out⟩
              case measure => rw [BI2.pos, HPOS.out]; omega
            · have hne : ((r : Int) == 92) = false := by simp; omega
              by_cases hr34 : r = 34
              · subst hr34
                have hsk : s[k].toNat = 34 := by have := HCA.out; omega
                have HR : Hid (k + 1 = E) := Lib.hid (by
                  have := HI2.out
                  rw [wend_cons, if_neg (fun h => hr92 (by have := H92.out.1 h.2; omega)), if_pos ⟨rfl, H34.out.2 hsk⟩, HEE.out] at this
                  exact this)
                clear hsk
                go_wp2_with fail
                go_ret
                exact ⟨ret_i (by rw [← HR.out]; omega), hB2⟩
              · have hne2 : ((r : Int) == 34) = false := by simp; omega
                have HX : Hid (EndI (bl s) true false (k + d)) := Lib.hid (HP.out (fun h => hr92 (by have := HCA.out; have := H92.out.1 h.2; omega)) (fun h => hr34 (by have := HCA.out; have := H34.out.1 h.2; omega)) (by simp))
                go_wp2_with fail
                go_roundw
                case rel => exact ⟨k + d, false, rfl, by omega, BI2, hB2, HX.out⟩
                case measure => rw [BI2.pos, HPOS.out]; omega
    · have hnx : ∀ ty, (Instr.next (.pointer (some ⟨w.heap.size, 0, none⟩)) true ty).run Tryd.prog wr = .ok (.tuple #[.bool false]) wr := fun ty => Lib.run_next_end_at wr _ s k ty BI hk
      have HR : Hid (s.size = E) := Lib.hid (by
        unfold EndI at hI
        rw [if_neg (by omega), List.drop_of_length_le (by have := HL.out; omega), HEE.out] at hI
        have : k = s.size := by omega
        cases esc <;> simp [wend] at hI <;> omega)
      clear hI
      go_wp2_with fail
      go_ret
      exact ⟨ret_i (by rw [← HR.out]), hB⟩
end Go.Proofs.YtimmfcbpdnlfjaaDoor

namespace Go.Proofs.YtimmfcbpdnlfjaaDoor
open Go.RowKit Go.Sort Go.Lib

def szOf : Value → Nat
  | .string s => s.size
  | _ => 0
theorem bl_extract (s : ByteArray) (a b : Nat) : bl (s.extract a b) = ((bl s).take b).drop a := by
  unfold bl
  rw [ByteArray.data_extract, Array.toList_extract, List.extract_eq_take_drop]
  rw [List.drop_take]
theorem bl_tail (s : ByteArray) (a : Nat) : bl (s.extract a s.size) = (bl s).drop a := by
  rw [bl_extract, List.take_of_length_le (by rw [bl_length]; exact Nat.le_refl _)]
theorem bl_head (s : ByteArray) (b : Nat) : bl (s.extract 0 b) = (bl s).take b := by rw [bl_extract, List.drop_zero]
theorem sv_bl (s : ByteArray) : sv (bl s) = .string s := by unfold sv; rw [← bl_is]
theorem str_empty (s : ByteArray) (h : s.size = 0) : s.toList = [] := by
  rw [Lib.toList_data]
  exact List.eq_nil_of_length_eq_zero (by rw [Array.length_toList]; exact h)
theorem str_some (s : ByteArray) (h : 0 < s.size) : (s.toList = []) = False ∧ s.toList.isEmpty = false ∧ (!s.toList.isEmpty) = true := by
  have hne : s.toList ≠ [] := by
    rw [Lib.toList_data]
    intro e
    have : s.data.toList.length = s.size := Array.length_toList
    rw [e] at this
    simp at this
    omega
  have h2 : s.toList.isEmpty = false := by
    cases h : s.toList with
    | nil => exact absurd h hne
    | cons _ _ => rfl
  exact ⟨by simp [hne], h2, by rw [h2]; rfl⟩

def FreshS (w : World) (S : List (List UInt8)) (e : Ending) (w' : World) : Prop := ∃ v', e = .returned v' ∧ OwnS w' w.heap.size v' S ∧ Below w.heap.size w w'
theorem OwnS.lt {w : World} {base : Nat} {v : Value} {S : List (List UInt8)} (h : OwnS w base v S) : ∀ k, v.ownBlock = some k → base ≤ k ∧ k < w.heap.size := World.ownsRow.lt h

set_option maxRecDepth 100000 in
set_option maxHeartbeats 2000000 in
theorem runes_Words (s : ByteArray) (hs : s.size ≤ 1000000000) (w : World) : Calls Tryd.prog 17 #[.string s] w (FreshS w (wordsP (bl s))) := by
  obtain ⟨W, hW⟩ : ∃ W, wordsP (bl s) = W := ⟨_, rfl⟩
  have HW := Lib.hid hW
  rw [hW]
  clear hW
  go_enter Tryd.func17, Tryd.ntmps17
  go_wp2_with fail
  go_loopw [0, 3, 4] (fun v0 v3 _ wr => ∃ (t : ByteArray) (S : List (List UInt8)), v0 = .string t ∧ OwnS wr w.heap.size v3 S ∧ S ++ wordsP (bl t) = W ∧ t.size + S.length ≤ s.size ∧ Below w.heap.size w wr) (fun v0 _ _ _ => szOf v0)
  case atStart => exact ⟨s, [], rfl, OwnS.nil_ _ _, by rw [List.nil_append, HW.out], by simp, Below.refl _ _⟩
  case round =>
    obtain ⟨t, S, rfl, hO, hSW, hts, hB⟩ := hrel
    have HO := Lib.hid hO
    have HSW := Lib.hid hSW
    clear hO hSW
    by_cases h0 : 0 < t.size
    · obtain ⟨hn1, hn2, hn3⟩ := str_some t h0
      have hbd := bl_drop t 0 h0
      rw [List.drop_zero] at hbd
      have HBD := Lib.hid hbd
      have h32 := u8_eq_iff t[0] 32 (by omega)
      have H32 := Lib.hid h32
      have hx1 := bl_tail t 1
      have HX1 := Lib.hid hx1
      clear hbd h32 hx1
      by_cases hc : t[0] = 32
      · have hq : ((t[0].toNat : Int) == 32) = true := by have := H32.out.1 hc; simp; omega
        have HC := Lib.hid hc
        have hsz : (t.extract 1 t.size).size = t.size - 1 := by rw [ByteArray.size_extract]; omega
        have HSZ := Lib.hid hsz
        clear hc hsz
        go_wp2_with fail
        go_roundw
        case rel =>
          refine ⟨t.extract 1 t.size, S, rfl, HO.out, ?_, by rw [HSZ.out]; omega, hB⟩
          rw [← HSW.out, HX1.out, HBD.out, HC.out, wordsP_blank]
          rfl
        case measure => simp only [szOf]; rw [HSZ.out]; omega
      · have hq : ((t[0].toNat : Int) == 32) = false := by
          simp
          intro h
          exact hc (H32.out.2 (by omega))
        obtain ⟨n, hn⟩ : ∃ n, endP (bl t) = n := ⟨_, rfl⟩
        have hle := endP_le (bl t)
        rw [hn, bl_length] at hle
        have hnt := hle.1
        have hn1' := hle.2 (by rw [HBD.out]; simp)
        have HE := Lib.hid (runes_end t h0 (by omega) wr)
        rw [hn] at HE
        have hw := wordsP_word t[0] ((bl t).drop 1) hc
        rw [← HBD.out, hn] at hw
        have HWD := Lib.hid hw
        have hsz : (t.extract n t.size).size = t.size - n := by rw [ByteArray.size_extract]; omega
        have HSZ := Lib.hid hsz
        clear hc hsz hw hle hn
        go_wp2_with fail
        refine HE.out.mono ?_
        clear HE
        rintro e w1 ⟨rfl, b1⟩
        replace HO := Lib.hid (HO.out.below b1)
        replace hB := hB.trans (b1.mono hB.size)
        clear b1
        go_wp2_with (at_builtin; go_must (refine append_str w1 (bl (t.extract 0 n)) _ (by rw [sv_bl]) _ rfl _ _ rfl w.heap.size _ S rfl HO.out rfl (by omega) hB.size ?_); intro v2 w2 o2 g2 _)
        go_roundw
        case rel =>
          refine ⟨t.extract n t.size, S ++ [bl (t.extract 0 n)], rfl, o2, ?_, by rw [HSZ.out, List.length_append, List.length_singleton]; omega, Below.grown hB g2 hB.size (fun q hq => (HO.out.lt q hq).1)⟩
          rw [← HSW.out, HWD.out, bl_head, bl_tail]
          simp
        case measure => simp only [szOf]; rw [HSZ.out]; omega
    · have hl := str_empty t (by omega)
      have hl2 : (!t.toList.isEmpty) = false := by rw [hl]; rfl
      have HR : Hid (S = W) := Lib.hid (by
        have h1 := HSW.out
        rw [show bl t = [] from List.eq_nil_of_length_eq_zero (by rw [bl_length]; omega), wordsP_nil, List.append_nil] at h1
        exact h1)
      go_wp2_with fail
      go_ret
      exact ⟨_, rfl, by rw [← HR.out]; exact HO.out, hB⟩
end Go.Proofs.YtimmfcbpdnlfjaaDoor
