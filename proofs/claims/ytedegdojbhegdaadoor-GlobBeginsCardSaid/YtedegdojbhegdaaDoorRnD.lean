/- Contract of runes.Words. -/
import Derived.Test.YtedegdojbhegdaaDoorRnC
import Derived.Deep.DeepMust
namespace Go.Proofs.YtedegdojbhegdaaDoor
open Go.RowKit Go.Sort Go.Lib

def szOf : Value → Nat
  | .string s => s.size
  | _ => 0
theorem bl_extract (s : ByteArray) (a b : Nat) : bl (s.extract a b) = ((bl s).take b).drop a := by
  unfold bl
  rw [ByteArray.data_extract, Array.toList_extract, List.extract_eq_take_drop]
  rw [List.drop_take]
theorem bl_tail (s : ByteArray) (a : Nat) : bl (s.extract a s.size) = (bl s).drop a := by
  rw [bl_extract, List.take_of_length_le (by rw [bl_length]; exact Nat.le_refl _)]
theorem bl_head (s : ByteArray) (b : Nat) : bl (s.extract 0 b) = (bl s).take b := by rw [bl_extract, List.drop_zero]
theorem sv_bl (s : ByteArray) : sv (bl s) = .string s := by unfold sv; rw [← bl_is]
theorem str_empty (s : ByteArray) (h : s.size = 0) : s.toList = [] := by
  rw [Lib.toList_data]
  exact List.eq_nil_of_length_eq_zero (by rw [Array.length_toList]; exact h)
theorem str_some (s : ByteArray) (h : 0 < s.size) : (s.toList = []) = False ∧ s.toList.isEmpty = false ∧ (!s.toList.isEmpty) = true := by
  have hne : s.toList ≠ [] := by
    rw [Lib.toList_data]
    intro e
    have : s.data.toList.length = s.size := Array.length_toList
    rw [e] at this
    simp at this
    omega
  have h2 : s.toList.isEmpty = false := by
    cases h : s.toList with
    | nil => exact absurd h hne
    | cons _ _ => rfl
  exact ⟨by simp [hne], h2, by rw [h2]; rfl⟩

def FreshS (w : World) (S : List (List UInt8)) (e : Ending) (w' : World) : Prop := ∃ v', e = .returned v' ∧ OwnS w' w.heap.size v' S ∧ Below w.heap.size w w'
theorem OwnS.lt {w : World} {base : Nat} {v : Value} {S : List (List UInt8)} (h : OwnS w base v S) : ∀ k, v.ownBlock = some k → base ≤ k ∧ k < w.heap.size := World.ownsRow.lt h

set_option maxRecDepth 100000 in
set_option maxHeartbeats 2000000 in
theorem runes_Words (s : ByteArray) (hs : s.size ≤ 1000000000) (w : World) : Calls Tryd.prog 15 #[.string s] w (FreshS w (wordsP (bl s))) := by
  obtain ⟨W, hW⟩ : ∃ W, wordsP (bl s) = W := ⟨_, rfl⟩
  have HW := Lib.hid hW
  rw [hW]
  clear hW
  go_enter Tryd.func15, Tryd.ntmps15
  go_wp2_with fail
  go_loopw [0, 3, 4] (fun v0 v3 _ wr => ∃ (t : ByteArray) (S : List (List UInt8)), v0 = .string t ∧ OwnS wr w.heap.size v3 S ∧ S ++ wordsP (bl t) = W ∧ t.size + S.length ≤ s.size ∧ Below w.heap.size w wr) (fun v0 _ _ _ => szOf v0)
  case atStart => exact ⟨s, [], rfl, OwnS.nil_ _ _, by rw [List.nil_append, HW.out], by simp, Below.refl _ _⟩
  case round =>
    obtain ⟨t, S, rfl, hO, hSW, hts, hB⟩ := hrel
    have HO := Lib.hid hO
    have HSW := Lib.hid hSW
    clear hO hSW
    by_cases h0 : 0 < t.size
    · obtain ⟨hn1, hn2, hn3⟩ := str_some t h0
      have hbd := bl_drop t 0 h0
      rw [List.drop_zero] at hbd
      have HBD := Lib.hid hbd
      have h32 := u8_eq_iff t[0] 32 (by omega)
      have H32 := Lib.hid h32
      have hx1 := bl_tail t 1
      have HX1 := Lib.hid hx1
      clear hbd h32 hx1
      by_cases hc : t[0] = 32
      · have hq : ((t[0].toNat : Int) == 32) = true := by have := H32.out.1 hc; simp; omega
        have HC := Lib.hid hc
        have hsz : (t.extract 1 t.size).size = t.size - 1 := by rw [ByteArray.size_extract]; omega
        have HSZ := Lib.hid hsz
        clear hc hsz
        go_wp2_with fail
        go_roundw
        case rel =>
          refine ⟨t.extract 1 t.size, S, rfl, HO.out, ?_, by rw [HSZ.out]; omega, hB⟩
          rw [← HSW.out, HX1.out, HBD.out, HC.out, wordsP_blank]
          rfl
        case measure => simp only [szOf]; rw [HSZ.out]; omega
      · have hq : ((t[0].toNat : Int) == 32) = false := by
          simp
          intro h
          exact hc (H32.out.2 (by omega))
        obtain ⟨n, hn⟩ : ∃ n, endP (bl t) = n := ⟨_, rfl⟩
        have hle := endP_le (bl t)
        rw [hn, bl_length] at hle
        have hnt := hle.1
        have hn1' := hle.2 (by rw [HBD.out]; simp)
        have HE := Lib.hid (runes_end t h0 (by omega) wr)
        rw [hn] at HE
        have hw := wordsP_word t[0] ((bl t).drop 1) hc
        rw [← HBD.out, hn] at hw
        have HWD := Lib.hid hw
        have hsz : (t.extract n t.size).size = t.size - n := by rw [ByteArray.size_extract]; omega
        have HSZ := Lib.hid hsz
        clear hc hsz hw hle hn
        go_wp2_with fail
        refine HE.out.mono ?_
        clear HE
        rintro e w1 ⟨rfl, b1⟩
        replace HO := Lib.hid (HO.out.below b1)
        replace hB := hB.trans (b1.mono hB.size)
        clear b1
        go_wp2_with (at_builtin; go_must (refine append_str w1 (bl (t.extract 0 n)) _ (by rw [sv_bl]) _ rfl _ _ rfl w.heap.size _ S rfl HO.out rfl (by omega) hB.size ?_); intro v2 w2 o2 g2 _)
        go_roundw
        case rel =>
          refine ⟨t.extract n t.size, S ++ [bl (t.extract 0 n)], rfl, o2, ?_, by rw [HSZ.out, List.length_append, List.length_singleton]; omega, Below.grown hB g2 hB.size (fun q hq => (HO.out.lt q hq).1)⟩
          rw [← HSW.out, HWD.out, bl_head, bl_tail]
          simp
        case measure => simp only [szOf]; rw [HSZ.out]; omega
    · have hl := str_empty t (by omega)
      have hl2 : (!t.toList.isEmpty) = false := by rw [hl]; rfl
      have HR : Hid (S = W) := Lib.hid (by
        have h1 := HSW.out
        rw [show bl t = [] from List.eq_nil_of_length_eq_zero (by rw [bl_length]; omega), wordsP_nil, List.append_nil] at h1
        exact h1)
      go_wp2_with fail
      go_ret
      exact ⟨_, rfl, by rw [← HR.out]; exact HO.out, hB⟩
end Go.Proofs.YtedegdojbhegdaaDoor
