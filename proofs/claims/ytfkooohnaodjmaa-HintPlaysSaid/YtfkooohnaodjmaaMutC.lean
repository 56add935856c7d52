/- Contracts of the comparisons that mutations are compared by. Contracts of the comparisons of rows of stamps. Contract of mut.Compare. -/
import Derived.Test.YtfkooohnaodjmaaMixK
import Derived.Test.YtfkooohnaodjmaaStampC
import Derived.Laws.Cover1
import Derived.Sort.Walk0
import Derived.Deep.Cut
import Derived.Outline
import Derived.Test.YtfkooohnaodjmaaRows1
import Derived.Test.YtfkooohnaodjmaaWords
namespace Go.Proofs.Ytfkooohnaodjmaa
open Go.RowKit Go.Sort

/-- How two texts stand. -/
def cmpT (a b : ByteArray) : Int := if Op.bytesLess a.toList b.toList = true then -1 else if (Op.bytesLess a.toList b.toList || a.toList == b.toList) = true then 0 else 1
theorem cmpT_zero (a b : ByteArray) : cmpT a b = 0 ↔ a.toList = b.toList := by
  unfold cmpT
  constructor
  · intro h
    split at h
    · simp at h
    · rename_i h1
      split at h
      · rename_i h2
        simp only [Bool.or_eq_true, beq_iff_eq] at h2
        rcases h2 with h2 | h2
        · exact absurd h2 h1
        · exact h2
      · simp at h
  · intro h
    rw [h, bytesLess_eq]
    simp
theorem cmpT_cases (a b : ByteArray) : (Op.bytesLess a.toList b.toList = true ∧ cmpT a b = -1) ∨ (Op.bytesLess a.toList b.toList = false ∧ (a.toList == b.toList) = false ∧ cmpT a b = 1) ∨ (Op.bytesLess a.toList b.toList = false ∧ (a.toList == b.toList) = true ∧ cmpT a b = 0) := by
  unfold cmpT
  cases h1 : Op.bytesLess a.toList b.toList
  · cases h2 : (a.toList == b.toList)
    · exact .inr (.inl ⟨rfl, rfl, by simp⟩)
    · exact .inr (.inr ⟨rfl, rfl, by simp⟩)
  · exact .inl ⟨rfl, by simp⟩

set_option maxRecDepth 100000 in
theorem ref07_Text (a b : ByteArray) (w : World) : Calls Try.prog 32 #[.string a, .string b] w fun e w' => e = .returned (.int .i64 (cmpT a b)) ∧ w = w' := by
  rcases cmpT_cases a b with ⟨h1, h2⟩ | ⟨h1, h2, h3⟩ | ⟨h1, h2, h3⟩
  case' inl => rw [h2]; clear h2
  case' inr.inl => rw [h3]; clear h3
  case' inr.inr => rw [h3]; clear h3
  all_goals
    go_enter Try.func32, Try.ntmps32
    go_wp2_with fail
    go_ret
    exact ⟨rfl, rfl⟩
set_option maxRecDepth 100000 in
theorem cmp_isNaNS (a : ByteArray) (w : World) : Calls Try.prog 57 #[.string a] w fun e w' => e = .returned (.bool false) ∧ w = w' := by
  have he : (!(a.toList == a.toList)) = false := by simp
  go_enter Try.func57, Try.ntmps57
  go_wp2_with fail
  go_ret
  exact ⟨ret_bool' (by simp), rfl⟩
set_option maxRecDepth 100000 in
theorem cmp_CompareS (a b : ByteArray) (w : World) : Calls Try.prog 36 #[.string a, .string b] w fun e w' => e = .returned (.int .i64 (cmpT a b)) ∧ w = w' := by
  rcases cmpT_cases a b with ⟨h1, h2⟩ | ⟨h1, h2, h3⟩ | ⟨h1, h2, h3⟩
  case' inl => rw [h2]; clear h2
  case' inr.inl => rw [h3]; clear h3
  case' inr.inr => rw [h3]; clear h3
  all_goals
    go_enter Try.func36, Try.ntmps36
    go_wp2_with fail
    refine (cmp_isNaNS a w).mono ?_
    rintro e w1 ⟨rfl, rfl⟩
    go_wp2_with fail
    refine (cmp_isNaNS b w).mono ?_
    rintro e w1 ⟨rfl, rfl⟩
    go_wp2_with fail
    go_ret
    exact ⟨rfl, rfl⟩

theorem cmpI_cases (a b : Int) : (decide (a < b) = true ∧ cmpI a b = -1) ∨ (decide (a < b) = false ∧ decide (b < a) = true ∧ cmpI a b = 1) ∨ (decide (a < b) = false ∧ decide (b < a) = false ∧ cmpI a b = 0) := by
  unfold cmpI
  by_cases h : a < b
  · exact .inl ⟨by simpa using h, by rw [if_pos h]⟩
  · by_cases h2 : b < a
    · exact .inr (.inl ⟨by simpa using h, by simpa using h2, by rw [if_neg h, if_pos h2]⟩)
    · exact .inr (.inr ⟨by simpa using h, by simpa using h2, by rw [if_neg h, if_neg h2]⟩)
set_option maxRecDepth 100000 in
theorem ref07_number (a b : Int) (w : World) : Calls Try.prog 31 #[.int .i64 a, .int .i64 b] w fun e w' => e = .returned (.int .i64 (cmpI a b)) ∧ w = w' := by
  rcases cmpI_cases a b with ⟨h1, h2⟩ | ⟨h1, h2, h3⟩ | ⟨h1, h2, h3⟩
  case' inl => rw [h2]; clear h2
  case' inr.inl => rw [h3]; clear h3
  case' inr.inr => rw [h3]; clear h3
  all_goals
    go_enter Try.func31, Try.ntmps31
    go_wp2_with fail
    go_ret
    exact ⟨rfl, rfl⟩
theorem cmp_isNaN_T (a : Int) (w : World) : Calls Try.prog 79 #[.int .i64 a] w fun e w' => e = .returned (.bool false) ∧ w = w' := by
  go_enter Try.func79, Try.ntmps79
  go_wp2
  go_ret
  exact ⟨ret_bool' (by simp), rfl⟩
set_option maxRecDepth 100000 in
theorem cmp_Compare_T (a b : Int) (w : World) : Calls Try.prog 65 #[.int .i64 a, .int .i64 b] w fun e w' => e = .returned (.int .i64 (cmpI a b)) ∧ w = w' := by
  rcases cmpI_cases a b with ⟨h1, h2⟩ | ⟨h1, h2, h3⟩ | ⟨h1, h2, h3⟩
  case' inl => rw [h2]; clear h2
  case' inr.inl => rw [h3]; clear h3
  case' inr.inr => rw [h3]; clear h3
  all_goals
    go_enter Try.func65, Try.ntmps65
    go_wp2_with fail
    refine (cmp_isNaN_T a w).mono ?_
    rintro e w1 ⟨rfl, rfl⟩
    go_wp2_with fail
    refine (cmp_isNaN_T b w).mono ?_
    rintro e w1 ⟨rfl, rfl⟩
    go_wp2_with fail
    go_ret
    exact ⟨rfl, rfl⟩
theorem cmp_isNaN_K (a : Int) (w : World) : Calls Try.prog 80 #[.int .i64 a] w fun e w' => e = .returned (.bool false) ∧ w = w' := by
  go_enter Try.func80, Try.ntmps80
  go_wp2
  go_ret
  exact ⟨ret_bool' (by simp), rfl⟩
set_option maxRecDepth 100000 in
theorem cmp_Compare_K (a b : Int) (w : World) : Calls Try.prog 66 #[.int .i64 a, .int .i64 b] w fun e w' => e = .returned (.int .i64 (cmpI a b)) ∧ w = w' := by
  rcases cmpI_cases a b with ⟨h1, h2⟩ | ⟨h1, h2, h3⟩ | ⟨h1, h2, h3⟩
  case' inl => rw [h2]; clear h2
  case' inr.inl => rw [h3]; clear h3
  case' inr.inr => rw [h3]; clear h3
  all_goals
    go_enter Try.func66, Try.ntmps66
    go_wp2_with fail
    refine (cmp_isNaN_K a w).mono ?_
    rintro e w1 ⟨rfl, rfl⟩
    go_wp2_with fail
    refine (cmp_isNaN_K b w).mono ?_
    rintro e w1 ⟨rfl, rfl⟩
    go_wp2_with fail
    go_ret
    exact ⟨rfl, rfl⟩

/-- The first number that is not 0. -/
def orL : List Int → Int
  | [] => 0
  | x :: l => if x = 0 then orL l else x
theorem orL_drop (l : List Int) (k : Nat) (hk : k < l.length) : orL (l.drop k) = if l[k] = 0 then orL (l.drop (k + 1)) else l[k] := by
  rw [List.drop_eq_getElem_cons hk]
  rfl
set_option maxRecDepth 100000 in
set_option maxHeartbeats 1000000 in
theorem cmp_Or (w : World) (g : Nat) (l : List Int) (n : Nat) (hl : l.length = n) (hc : ∀ (k : Nat) (x : Int), l[k]? = some x → w.cell? ⟨g, k, none⟩ = some (.int .i64 x)) (hn : n ≤ 1000000) :
    Calls Try.prog 38 #[.slice (some ⟨g, 0, none⟩) n n] w fun e w' => e = .returned (.int .i64 (orL l)) ∧ w = w' := by
  obtain ⟨R, hR⟩ : ∃ R, orL l = R := ⟨_, rfl⟩
  have HR := Lib.hid hR
  have HC := Lib.hid hc
  have HL := Lib.hid hl
  rw [hR]
  clear hR hc hl
  go_enter Try.func38, Try.ntmps38
  go_wp2_with fail
  go_loop [5, 8] (fun _ v8 => ∃ k : Nat, v8 = .int .i64 k ∧ k ≤ n ∧ orL (l.drop k) = R) (fun _ v8 => n - (RowKit.intOf v8).toNat)
  case atStart => exact ⟨0, rfl, Nat.zero_le _, by rw [List.drop_zero]; exact HR.out⟩
  case round =>
    obtain ⟨k, rfl, hk, hd⟩ := hrel
    have HD := Lib.hid hd
    clear hd
    by_cases hkn : k < n
    · have hkl : k < l.length := by have := HL.out; omega
      obtain ⟨x, hx⟩ : ∃ x, l[k]'hkl = x := ⟨_, rfl⟩
      have q := HC.out k x (by rw [List.getElem?_eq_getElem hkl, hx])
      have hst := orL_drop l k hkl
      rw [hx] at hst
      have HST := Lib.hid hst
      clear hst hx
      by_cases h0 : x = 0
      · have hne : (x != 0) = false := by simp [h0]
        have HX : Hid (orL (l.drop (k + 1)) = R) := Lib.hid (by rw [← HD.out, HST.out, if_pos h0])
        clear h0
        go_wp2_with fail
        go_round
        case rel => exact ⟨k + 1, by go_num, by omega, HX.out⟩
        case measure => simp [RowKit.intOf]; omega
      · have hne : (x != 0) = true := by simp [h0]
        have HX : Hid (x = R) := Lib.hid (by rw [← HD.out, HST.out, if_neg h0])
        clear h0
        go_wp2_with fail
        go_ret
        exact ⟨by rw [← HX.out]; rfl, rfl⟩
    · have HX : Hid (0 = R) := Lib.hid (by rw [← HD.out, List.drop_of_length_le (by rw [HL.out]; omega)]; rfl)
      go_wp2_with fail
      go_ret
      exact ⟨by rw [← HX.out]; rfl, rfl⟩
end Go.Proofs.Ytfkooohnaodjmaa

namespace Go.Proofs.Ytfkooohnaodjmaa
open Go.RowKit Go.Sort

/-- A stamp's cells. -/
def sc (s : Int × Int × Int) : List Value := [.int .i64 s.1, .int .i64 s.2.1, .int .i64 s.2.2]
theorem sc_len (s : Int × Int × Int) : (sc s).length = 3 := rfl
def cmp3 (a b : Int × Int × Int) : Int := cmpS a.1 a.2.1 a.2.2 b.1 b.2.1 b.2.2
/-- How two rows of stamps stand. -/
def cmpR : List (Int × Int × Int) → List (Int × Int × Int) → Int
  | a :: x, b :: y => if cmp3 a b = 0 then cmpR x y else cmp3 a b
  | [], [] => 0
  | [], _ :: _ => -1
  | _ :: _, [] => 1
theorem cmpR_step (l1 l2 : List (Int × Int × Int)) (k : Nat) (h1 : k < l1.length) (h2 : k < l2.length) : cmpR (l1.drop k) (l2.drop k) = if cmp3 l1[k] l2[k] = 0 then cmpR (l1.drop (k + 1)) (l2.drop (k + 1)) else cmp3 l1[k] l2[k] := by
  rw [List.drop_eq_getElem_cons h1, List.drop_eq_getElem_cons h2]
  rfl
theorem cmpR_end (l1 l2 : List (Int × Int × Int)) (k : Nat) (hk1 : k ≤ l1.length) (hk2 : k ≤ l2.length) (h : k = l1.length ∨ k = l2.length) : cmpR (l1.drop k) (l2.drop k) = cmpI l1.length l2.length := by
  have e1 : (l1.drop k).length = l1.length - k := List.length_drop
  have e2 : (l2.drop k).length = l2.length - k := List.length_drop
  unfold cmpI
  cases h3 : l1.drop k with
  | nil =>
    rw [h3] at e1
    simp at e1
    cases h4 : l2.drop k with
    | nil =>
      rw [h4] at e2
      simp at e2
      rw [if_neg (by omega), if_neg (by omega)]
      rfl
    | cons b y =>
      rw [h4] at e2
      simp at e2
      rw [if_pos (by omega)]
      rfl
  | cons a x =>
    rw [h3] at e1
    simp at e1
    cases h4 : l2.drop k with
    | nil =>
      rw [h4] at e2
      simp at e2
      rw [if_neg (by omega), if_pos (by omega)]
      rfl
    | cons b y =>
      rw [h4] at e2
      simp at e2
      omega
theorem Reads.form3 {w : World} {B n size : Nat} {A : Option Addr} {xs : List Value} (h : Reads w B size A n xs) (hn : 0 < n) (hs : 0 < size) : ∃ b off, A = some ⟨b, off, none⟩ ∧ b < B ∧ ∀ j u, xs[j]? = some u → w.cell? ⟨b, off + j, none⟩ = some u := by
  obtain ⟨ad, e, hb, hc⟩ := h.2 hn
  have hl : 0 < xs.length := by rw [h.1]; exact Nat.mul_pos hn hs
  have h0 := hc 0 _ (List.getElem?_eq_getElem hl)
  obtain ⟨b, off, spot⟩ := ad
  have hs : spot = none := by simpa [Addr.add] using World.cell?_spot h0
  subst hs
  refine ⟨b, off, e, hb, fun j u hu => ?_⟩
  rw [← add_lit]
  exact hc j u hu
theorem stamps_n {w : World} {B n : Nat} {A : Option Addr} {T : List (Int × Int × Int)} (h : Reads w B 3 A n (T.flatMap sc)) : T.length = n := by
  have hl := h.1
  rw [flat_len sc 3 sc_len] at hl
  omega
/-- A stamp of a row of stamps. -/
theorem stamp_at {w : World} {B n : Nat} {A : Option Addr} {T : List (Int × Int × Int)} (h : Reads w B 3 A n (T.flatMap sc)) {k : Nat} (hk : k < T.length) : ∃ b off, A = some ⟨b, off, none⟩ ∧ b < B ∧ w.cell? ⟨b, off + k * 3, none⟩ = some (.int .i64 T[k].1) ∧ w.cell? ⟨b, off + k * 3 + 1, none⟩ = some (.int .i64 T[k].2.1) ∧ w.cell? ⟨b, off + k * 3 + 2, none⟩ = some (.int .i64 T[k].2.2) := by
  have hl := stamps_n h
  obtain ⟨b, off, hA, hb, hc⟩ := h.form3 (by omega) (by decide)
  refine ⟨b, off, hA, hb, ?_, ?_, ?_⟩
  · have := hc (k * 3 + 0) _ (flat_get sc 3 sc_len T k 0 hk (by decide))
    simpa using this
  · have := hc (k * 3 + 1) _ (flat_get sc 3 sc_len T k 1 hk (by decide))
    rw [← Nat.add_assoc] at this
    exact this
  · have := hc (k * 3 + 2) _ (flat_get sc 3 sc_len T k 2 hk (by decide))
    rw [← Nat.add_assoc] at this
    exact this

set_option maxRecDepth 100000 in
set_option maxHeartbeats 4000000 in
theorem ref07_rows (A1 A2 : Option Addr) (n1 c1 n2 c2 : Nat) (l1 l2 : List (Int × Int × Int)) (w : World) (hr1 : Reads w w.heap.size 3 A1 n1 (l1.flatMap sc)) (hr2 : Reads w w.heap.size 3 A2 n2 (l2.flatMap sc)) (hn1 : n1 ≤ 1000000000) :
    Calls Try.prog 33 #[.slice A1 n1 c1, .slice A2 n2 c2] w fun e w' => e = .returned (.int .i64 (cmpR l1 l2)) ∧ Below w.heap.size w w' := by
  have hl1 := stamps_n hr1
  have hl2 := stamps_n hr2
  obtain ⟨R, hR⟩ : ∃ R, cmpR l1 l2 = R := ⟨_, rfl⟩
  have HR := Lib.hid hR
  have H1 := Lib.hid hr1
  have H2 := Lib.hid hr2
  have L1 := Lib.hid hl1
  have L2 := Lib.hid hl2
  rw [hR]
  clear hR hr1 hr2 hl1 hl2
  go_enter Try.func33, Try.ntmps33
  go_wp2_with fail
  go_loopw [5, 6] (fun v5 _ wr => ∃ k : Nat, v5 = .int .i64 k ∧ k ≤ n1 ∧ k ≤ n2 ∧ cmpR (l1.drop k) (l2.drop k) = R ∧ Below w.heap.size w wr) (fun v5 _ _ => n1 - (RowKit.intOf v5).toNat)
  case atStart => exact ⟨0, rfl, Nat.zero_le _, Nat.zero_le _, HR.out, Below.refl _ _⟩
  case round =>
    obtain ⟨k, rfl, hk1, hk2, hd, hB⟩ := hrel
    have HD := Lib.hid hd
    clear hd
    by_cases hkn : k < n1 ∧ k < n2
    · obtain ⟨ha, hb⟩ := hkn
      have ka : k < l1.length := by have := L1.out; omega
      have kb : k < l2.length := by have := L2.out; omega
      obtain ⟨b1, o1, rfl, -, p0, p1, p2⟩ := stamp_at (H1.out.below hB) ka
      obtain ⟨b2, o2, rfl, -, r0, r1, r2⟩ := stamp_at (H2.out.below hB) kb
      have hst := cmpR_step l1 l2 k ka kb
      obtain ⟨a0, a1, a2, hxa⟩ : ∃ a0 a1 a2, l1[k] = (a0, a1, a2) := ⟨_, _, _, rfl⟩
      obtain ⟨d0, d1, d2, hxb⟩ : ∃ a0 a1 a2, l2[k] = (a0, a1, a2) := ⟨_, _, _, rfl⟩
      rw [hxa] at p0 p1 p2
      rw [hxb] at r0 r1 r2
      rw [hxa, hxb] at hst
      simp only [] at p0 p1 p2 r0 r1 r2
      obtain ⟨x, hx⟩ : ∃ x, cmp3 (a0, a1, a2) (d0, d1, d2) = x := ⟨_, rfl⟩
      rw [hx] at hst
      have HST := Lib.hid hst
      have HC := Lib.hid (ref04_Compare a0 a1 a2 d0 d1 d2 wr.drew)
      rw [show cmpS a0 a1 a2 d0 d1 d2 = x from hx] at HC
      clear hxa hxb hx hst
      go_upto_region 4 with fail
      have q0 : ∀ p : Kept (fun _ => True) wr.drew, p.v.cell? ⟨b1, o1 + k * 3, none⟩ = some (.int .i64 a0) := fun p => p.h.cell trivial p0
      have q1 : ∀ p : Kept (fun _ => True) wr.drew, p.v.cell? ⟨b1, o1 + k * 3 + 1, none⟩ = some (.int .i64 a1) := fun p => p.h.cell trivial p1
      have q2 : ∀ p : Kept (fun _ => True) wr.drew, p.v.cell? ⟨b1, o1 + k * 3 + 2, none⟩ = some (.int .i64 a2) := fun p => p.h.cell trivial p2
      have s0 : ∀ p : Kept (fun _ => True) wr.drew, p.v.cell? ⟨b2, o2 + k * 3, none⟩ = some (.int .i64 d0) := fun p => p.h.cell trivial r0
      have s1 : ∀ p : Kept (fun _ => True) wr.drew, p.v.cell? ⟨b2, o2 + k * 3 + 1, none⟩ = some (.int .i64 d1) := fun p => p.h.cell trivial r1
      have s2 : ∀ p : Kept (fun _ => True) wr.drew, p.v.cell? ⟨b2, o2 + k * 3 + 2, none⟩ = some (.int .i64 d2) := fun p => p.h.cell trivial r2
      clear p0 p1 p2 r0 r1 r2
      refine wp_region_mixDk (M := []) (fun _ => True) [0, 1, 2, 3, 4, 5, 6, 7, 8, 9] (by kernel_rfl) (by kernel_rfl) ?_
      iterate 8 (refine mix_calmDk rfl rfl ?_; go_big_quiet_step (fail); refine wpQuiet_nil ?_)
      refine mix_loudDk rfl (by kernel_rfl) rfl ?_
      intro K1 hK1
      have HK := Lib.hid hK1
      clear hK1 q0 q1 q2 s0 s1 s2
      go_wp2_with fail
      refine (HC.out).mono ?_
      rintro x w2 ⟨rfl, b2⟩
      have HB2 := Lib.hid b2
      clear b2
      go_wp2_with fail
      refine HK.out _ _ (Stand.of_below HB2.out) ?_
      clear HK
      iterate 1 (refine mix_calmDk rfl rfl ?_; go_big_quiet_step (fail); refine wpQuiet_nil ?_)
      refine mix_endDk ?_
      replace hB := (below_drewN hB 1).trans (HB2.out.mono hB.size)
      by_cases h0 : x = 0
      · have hne : (x != 0) = false := by simp [h0]
        have HX : Hid (cmpR (l1.drop (k + 1)) (l2.drop (k + 1)) = R) := Lib.hid (by rw [← HD.out, HST.out, if_pos h0])
        clear h0
        go_wp2_with fail
        go_roundw
        case rel => exact ⟨k + 1, by go_num, by omega, by omega, HX.out, hB⟩
        case measure => simp [RowKit.intOf]; omega
      · have hne : (x != 0) = true := by simp [h0]
        have HX : Hid (x = R) := Lib.hid (by rw [← HD.out, HST.out, if_neg h0])
        clear h0
        go_wp2_with fail
        go_ret
        exact ⟨by rw [← HX.out]; rfl, hB⟩
    · have HX : Hid (cmpI n1 n2 = R) := Lib.hid (by rw [← HD.out, cmpR_end l1 l2 k (by rw [L1.out]; exact hk1) (by rw [L2.out]; exact hk2) (by have := L1.out; have := L2.out; omega), L1.out, L2.out])
      have HN := Lib.hid (ref07_number (n1 : Int) (n2 : Int) wr)
      rw [HX.out] at HN
      rcases Nat.lt_or_ge k n1 with ha | ha
      case' inl =>
        have hd1 : decide (k < n1) = true := by simp; omega
        have hd2 : decide (k < n2) = false := by simp; omega
      case' inr => have hd1 : decide (k < n1) = false := by simp; omega
      all_goals
        clear hkn ha
        go_wp2_with fail
        refine HN.out.mono ?_
        rintro x w2 ⟨rfl, rfl⟩
        go_wp2_with fail
        go_ret
        exact ⟨rfl, hB⟩

set_option maxRecDepth 100000 in
set_option maxHeartbeats 4000000 in
theorem stamps_CompareFunc (A1 A2 : Option Addr) (n1 c1 n2 c2 : Nat) (l1 l2 : List (Int × Int × Int)) (w : World) (hr1 : Reads w w.heap.size 3 A1 n1 (l1.flatMap sc)) (hr2 : Reads w w.heap.size 3 A2 n2 (l2.flatMap sc)) (hn1 : n1 ≤ 1000000000) :
    Calls Try.prog 67 #[.slice A1 n1 c1, .slice A2 n2 c2, .func (.func 64) #[] #[]] w fun e w' => e = .returned (.int .i64 (cmpR l1 l2)) ∧ Below w.heap.size w w' := by
  have eg : ∀ args w, (callFunc 64 args).run Try.prog w = .ok (.enter 64 args) w := fun _ _ => by kernel_rfl
  have hl1 := stamps_n hr1
  have hl2 := stamps_n hr2
  obtain ⟨R, hR⟩ : ∃ R, cmpR l1 l2 = R := ⟨_, rfl⟩
  have HR := Lib.hid hR
  have H1 := Lib.hid hr1
  have H2 := Lib.hid hr2
  have L1 := Lib.hid hl1
  have L2 := Lib.hid hl2
  rw [hR]
  clear hR hr1 hr2 hl1 hl2
  go_enter Try.func67, Try.ntmps67
  go_wp2_with fail
  go_loopw [7, 8, 9, 10, 13] (fun _ _ _ _ v13 wr => ∃ k : Nat, v13 = .int .i64 k ∧ k ≤ n1 ∧ k ≤ n2 ∧ cmpR (l1.drop k) (l2.drop k) = R ∧ Below w.heap.size w wr) (fun _ _ _ _ v13 _ => n1 - (RowKit.intOf v13).toNat)
  case atStart => exact ⟨0, rfl, Nat.zero_le _, Nat.zero_le _, HR.out, Below.refl _ _⟩
  case round =>
    obtain ⟨k, rfl, hk1, hk2, hd, hB⟩ := hrel
    have HD := Lib.hid hd
    clear hd
    by_cases ha : k < n1
    · have ka : k < l1.length := by have := L1.out; omega
      obtain ⟨b1, o1, rfl, hb1, p0, p1, p2⟩ := stamp_at (H1.out.below hB) ka
      obtain ⟨a0, a1, a2, hxa⟩ : ∃ a0 a1 a2, l1[k] = (a0, a1, a2) := ⟨_, _, _, rfl⟩
      rw [hxa] at p0 p1 p2
      simp only [] at p0 p1 p2
      have HXA := Lib.hid hxa
      have BT := Blk.new wr 30 #[.int .i64 a0, .int .i64 a1, .int .i64 a2]
      have hBa := hB.alloc hB.size (.cells #[.int .i64 a0, .int .i64 a1, .int .i64 a2] 30)
      have ct := BT.cell
      clear hxa
      by_cases hb : k < n2
      · have kb : k < l2.length := by have := L2.out; omega
        obtain ⟨b2, o2, rfl, hb2, r0, r1, r2⟩ := stamp_at (H2.out.below hBa) kb
        have hst := cmpR_step l1 l2 k ka kb
        obtain ⟨d0, d1, d2, hxb⟩ : ∃ a0 a1 a2, l2[k] = (a0, a1, a2) := ⟨_, _, _, rfl⟩
        rw [hxb] at r0 r1 r2
        rw [HXA.out, hxb] at hst
        simp only [] at r0 r1 r2
        obtain ⟨x, hx⟩ : ∃ x, cmp3 (a0, a1, a2) (d0, d1, d2) = x := ⟨_, rfl⟩
        rw [hx] at hst
        have HST := Lib.hid hst
        have hge : decide (n2 ≤ k) = false := by simp; omega
        have BTa := BT.alloc (.cells #[.int .i64 d0, .int .i64 d1, .int .i64 d2] 30)
        have BU := Blk.new (wr.alloc (.cells #[.int .i64 a0, .int .i64 a1, .int .i64 a2] 30)) 30 #[.int .i64 d0, .int .i64 d1, .int .i64 d2]
        have hBb := hBa.alloc hBa.size (.cells #[.int .i64 d0, .int .i64 d1, .int .i64 d2] 30)
        have cta := BTa.cell
        have cu := BU.cell
        simp only [World.size_alloc] at cu
        have HC := Lib.hid (stamp_Compare a0 a1 a2 d0 d1 d2 ((wr.alloc (.cells #[.int .i64 a0, .int .i64 a1, .int .i64 a2] 30)).alloc (.cells #[.int .i64 d0, .int .i64 d1, .int .i64 d2] 30)))
        rw [show cmpS a0 a1 a2 d0 d1 d2 = x from hx] at HC
        clear hxb hx hst BT BTa BU
        go_wp2_with fail
        refine HC.out.mono ?_
        rintro y w2 ⟨rfl, b2⟩
        replace hBb := hBb.trans (b2.mono hBb.size)
        clear b2 HC ct cta cu
        by_cases h0 : x = 0
        · have hne : (x != 0) = false := by simp [h0]
          have HX : Hid (cmpR (l1.drop (k + 1)) (l2.drop (k + 1)) = R) := Lib.hid (by rw [← HD.out, HST.out, if_pos h0])
          clear h0
          go_wp2_with fail
          go_roundw
          case rel => exact ⟨k + 1, by go_num, by omega, by omega, HX.out, hBb⟩
          case measure => simp [RowKit.intOf]; omega
        · have hne : (x != 0) = true := by simp [h0]
          have HX : Hid (x = R) := Lib.hid (by rw [← HD.out, HST.out, if_neg h0])
          clear h0
          go_wp2_with fail
          go_ret
          exact ⟨by rw [← HX.out]; rfl, hBb⟩
      · have hge : decide (n2 ≤ k) = true := by simp; omega
        have HX : Hid (1 = R) := Lib.hid (by
          rw [← HD.out, cmpR_end l1 l2 k (by rw [L1.out]; exact hk1) (by rw [L2.out]; exact hk2) (by have := L1.out; have := L2.out; omega), L1.out, L2.out]
          unfold cmpI
          rw [if_neg (by omega), if_pos (by omega)])
        clear hb
        go_wp2_with fail
        go_ret
        exact ⟨by rw [← HX.out]; rfl, hBa⟩
    · have HX : Hid (cmpI n1 n2 = R) := Lib.hid (by rw [← HD.out, cmpR_end l1 l2 k (by rw [L1.out]; exact hk1) (by rw [L2.out]; exact hk2) (by have := L1.out; have := L2.out; omega), L1.out, L2.out])
      rcases Nat.lt_or_ge n1 n2 with hx | hx
      case' inl =>
        have hd : decide (n1 < n2) = true := by simp; omega
        have HY : Hid (-1 = R) := Lib.hid (by rw [← HX.out]; unfold cmpI; rw [if_pos (by omega)])
      case' inr =>
        have hd : decide (n1 < n2) = false := by simp; omega
        have HY : Hid (0 = R) := Lib.hid (by rw [← HX.out]; unfold cmpI; rw [if_neg (by omega), if_neg (by omega)])
      all_goals
        clear hx
        go_wp2_with fail
        go_ret
        exact ⟨by rw [← HY.out]; rfl, hB⟩
end Go.Proofs.Ytfkooohnaodjmaa

namespace Go.Proofs.Ytfkooohnaodjmaa
open Go.RowKit Go.Sort

/-- A mutation: its table, kind, key, end, value, expiry, stamp, and the stamps that it supersedes. -/
structure Mut where
  tab : Int
  kind : Int
  key : ByteArray
  en : ByteArray
  val : ByteArray
  exp : Int
  at_ : Int × Int × Int
  ov : List (Int × Int × Int)
def mutC (m : Mut) (s : Value) : Array Value := #[.int .i64 m.tab, .int .i64 m.kind, .string m.key, .string m.en, .string m.val, .int .i64 m.exp, .int .i64 m.at_.1, .int .i64 m.at_.2.1, .int .i64 m.at_.2.2, s]
/-- How two mutations stand. -/
def cmpM (a b : Mut) : Int := orL [cmp3 a.at_ b.at_, cmpI a.tab b.tab, cmpI a.kind b.kind, cmpT a.key b.key, cmpT a.en b.en, cmpT a.val b.val, cmpI a.exp b.exp, cmpR a.ov b.ov]

theorem ints_cell {w : World} {g : Nat} {t : TypeId} {l : List Int} (h : Blk w g t (l.map (Value.int .i64)).toArray) : ∀ (k : Nat) (x : Int), l[k]? = some x → w.cell? ⟨g, k, none⟩ = some (.int .i64 x) := fun k x hk => by
  rw [h.cell k]
  simp [hk]
set_option maxRecDepth 100000 in
set_option maxHeartbeats 4000000 in
theorem mut_Compare (m1 m2 : Mut) (A1 A2 : Option Addr) (n1 c1 n2 c2 : Nat) (w : World) (hr1 : Reads w w.heap.size 3 A1 n1 (m1.ov.flatMap sc)) (hr2 : Reads w w.heap.size 3 A2 n2 (m2.ov.flatMap sc)) (hn1 : n1 ≤ 1000000000) :
    Calls Try.prog 47 #[.agg (mutC m1 (.slice A1 n1 c1)), .agg (mutC m2 (.slice A2 n2 c2))] w fun e w' => e = .returned (.int .i64 (cmpM m1 m2)) ∧ Below w.heap.size w w' := by
  have BK1 := (Blk.new w 33 (mutC m1 (.slice A1 n1 c1))).alloc (.cells (mutC m2 (.slice A2 n2 c2)) 33)
  have BK2 := Blk.new (w.alloc (.cells (mutC m1 (.slice A1 n1 c1)) 33)) 33 (mutC m2 (.slice A2 n2 c2))
  have hB : Below w.heap.size w ((w.alloc (.cells (mutC m1 (.slice A1 n1 c1)) 33)).alloc (.cells (mutC m2 (.slice A2 n2 c2)) 33)) := ((Below.refl _ _).alloc (Nat.le_refl _) _).alloc (by simp) _
  have HR1 := Lib.hid (((hr1.alloc (Nat.le_refl _) (.cells (mutC m1 (.slice A1 n1 c1)) 33)).alloc (by simp) (.cells (mutC m2 (.slice A2 n2 c2)) 33)).more hB.size)
  have HR2 := Lib.hid (((hr2.alloc (Nat.le_refl _) (.cells (mutC m1 (.slice A1 n1 c1)) 33)).alloc (by simp) (.cells (mutC m2 (.slice A2 n2 c2)) 33)).more hB.size)
  simp only [World.size_alloc] at BK2
  clear hr1 hr2
  go_enter Try.func47, Try.ntmps47
  go_upto_region 1 with fail
  generalize ((w.alloc (.cells (mutC m1 (.slice A1 n1 c1)) 33)).alloc (.cells (mutC m2 (.slice A2 n2 c2)) 33)) = W at *
  have q0 : ∀ p : Kept (fun _ => True) W.drew, p.v.cell? ⟨w.heap.size, 0, none⟩ = some (.int .i64 m1.tab) := fun p => p.h.cell trivial (BK1.drew.cell 0)
  have q1 : ∀ p : Kept (fun _ => True) W.drew, p.v.cell? ⟨w.heap.size, 1, none⟩ = some (.int .i64 m1.kind) := fun p => p.h.cell trivial (BK1.drew.cell 1)
  have q2 : ∀ p : Kept (fun _ => True) W.drew, p.v.cell? ⟨w.heap.size, 2, none⟩ = some (.string m1.key) := fun p => p.h.cell trivial (BK1.drew.cell 2)
  have q3 : ∀ p : Kept (fun _ => True) W.drew, p.v.cell? ⟨w.heap.size, 3, none⟩ = some (.string m1.en) := fun p => p.h.cell trivial (BK1.drew.cell 3)
  have q4 : ∀ p : Kept (fun _ => True) W.drew, p.v.cell? ⟨w.heap.size, 4, none⟩ = some (.string m1.val) := fun p => p.h.cell trivial (BK1.drew.cell 4)
  have q5 : ∀ p : Kept (fun _ => True) W.drew, p.v.cell? ⟨w.heap.size, 5, none⟩ = some (.int .i64 m1.exp) := fun p => p.h.cell trivial (BK1.drew.cell 5)
  have q6 : ∀ p : Kept (fun _ => True) W.drew, p.v.cell? ⟨w.heap.size, 6, none⟩ = some (.int .i64 m1.at_.1) := fun p => p.h.cell trivial (BK1.drew.cell 6)
  have q7 : ∀ p : Kept (fun _ => True) W.drew, p.v.cell? ⟨w.heap.size, 7, none⟩ = some (.int .i64 m1.at_.2.1) := fun p => p.h.cell trivial (BK1.drew.cell 7)
  have q8 : ∀ p : Kept (fun _ => True) W.drew, p.v.cell? ⟨w.heap.size, 8, none⟩ = some (.int .i64 m1.at_.2.2) := fun p => p.h.cell trivial (BK1.drew.cell 8)
  have q9 : ∀ p : Kept (fun _ => True) W.drew, p.v.cell? ⟨w.heap.size, 9, none⟩ = some (.slice A1 n1 c1) := fun p => p.h.cell trivial (BK1.drew.cell 9)
  have t0 : ∀ p : Kept (fun _ => True) W.drew, p.v.cell? ⟨w.heap.size + 1, 0, none⟩ = some (.int .i64 m2.tab) := fun p => p.h.cell trivial (BK2.drew.cell 0)
  have t1 : ∀ p : Kept (fun _ => True) W.drew, p.v.cell? ⟨w.heap.size + 1, 1, none⟩ = some (.int .i64 m2.kind) := fun p => p.h.cell trivial (BK2.drew.cell 1)
  have t2 : ∀ p : Kept (fun _ => True) W.drew, p.v.cell? ⟨w.heap.size + 1, 2, none⟩ = some (.string m2.key) := fun p => p.h.cell trivial (BK2.drew.cell 2)
  have t3 : ∀ p : Kept (fun _ => True) W.drew, p.v.cell? ⟨w.heap.size + 1, 3, none⟩ = some (.string m2.en) := fun p => p.h.cell trivial (BK2.drew.cell 3)
  have t4 : ∀ p : Kept (fun _ => True) W.drew, p.v.cell? ⟨w.heap.size + 1, 4, none⟩ = some (.string m2.val) := fun p => p.h.cell trivial (BK2.drew.cell 4)
  have t5 : ∀ p : Kept (fun _ => True) W.drew, p.v.cell? ⟨w.heap.size + 1, 5, none⟩ = some (.int .i64 m2.exp) := fun p => p.h.cell trivial (BK2.drew.cell 5)
  have t6 : ∀ p : Kept (fun _ => True) W.drew, p.v.cell? ⟨w.heap.size + 1, 6, none⟩ = some (.int .i64 m2.at_.1) := fun p => p.h.cell trivial (BK2.drew.cell 6)
  have t7 : ∀ p : Kept (fun _ => True) W.drew, p.v.cell? ⟨w.heap.size + 1, 7, none⟩ = some (.int .i64 m2.at_.2.1) := fun p => p.h.cell trivial (BK2.drew.cell 7)
  have t8 : ∀ p : Kept (fun _ => True) W.drew, p.v.cell? ⟨w.heap.size + 1, 8, none⟩ = some (.int .i64 m2.at_.2.2) := fun p => p.h.cell trivial (BK2.drew.cell 8)
  have t9 : ∀ p : Kept (fun _ => True) W.drew, p.v.cell? ⟨w.heap.size + 1, 9, none⟩ = some (.slice A2 n2 c2) := fun p => p.h.cell trivial (BK2.drew.cell 9)
  obtain ⟨R1, h1⟩ : ∃ r, cmp3 m1.at_ m2.at_ = r := ⟨_, rfl⟩
  obtain ⟨R2, h2⟩ : ∃ r, cmpI m1.tab m2.tab = r := ⟨_, rfl⟩
  obtain ⟨R3, h3⟩ : ∃ r, cmpI m1.kind m2.kind = r := ⟨_, rfl⟩
  obtain ⟨R4, h4⟩ : ∃ r, cmpT m1.key m2.key = r := ⟨_, rfl⟩
  obtain ⟨R5, h5⟩ : ∃ r, cmpT m1.en m2.en = r := ⟨_, rfl⟩
  obtain ⟨R6, h6⟩ : ∃ r, cmpT m1.val m2.val = r := ⟨_, rfl⟩
  obtain ⟨R7, h7⟩ : ∃ r, cmpI m1.exp m2.exp = r := ⟨_, rfl⟩
  obtain ⟨R8, h8⟩ : ∃ r, cmpR m1.ov m2.ov = r := ⟨_, rfl⟩
  have HM : Hid (cmpM m1 m2 = orL [R1, R2, R3, R4, R5, R6, R7, R8]) := Lib.hid (by unfold cmpM; rw [h1, h2, h3, h4, h5, h6, h7, h8])
  have hc1 : ∀ w, Calls Try.prog 64 #[.agg #[.int .i64 m1.at_.1, .int .i64 m1.at_.2.1, .int .i64 m1.at_.2.2], .agg #[.int .i64 m2.at_.1, .int .i64 m2.at_.2.1, .int .i64 m2.at_.2.2]] w fun e w' => e = .returned (.int .i64 R1) ∧ Below w.heap.size w w' := fun w => h1 ▸ stamp_Compare _ _ _ _ _ _ w
  have hc2 := fun w => cmp_Compare_T m1.tab m2.tab w
  have hc3 := fun w => cmp_Compare_K m1.kind m2.kind w
  have hc4 := fun w => cmp_CompareS m1.key m2.key w
  have hc5 := fun w => cmp_CompareS m1.en m2.en w
  have hc6 := fun w => cmp_CompareS m1.val m2.val w
  have hc7 := fun w => cmp_Compare m1.exp m2.exp w
  have hc8 := fun w r1 r2 => stamps_CompareFunc A1 A2 n1 c1 n2 c2 m1.ov m2.ov w r1 r2 hn1
  rw [h2] at hc2
  rw [h3] at hc3
  rw [h4] at hc4
  rw [h5] at hc5
  rw [h6] at hc6
  rw [h7] at hc7
  rw [h8] at hc8
  have C1 := Lib.hid hc1
  have C2 := Lib.hid hc2
  have C3 := Lib.hid hc3
  have C4 := Lib.hid hc4
  have C5 := Lib.hid hc5
  have C6 := Lib.hid hc6
  have C7 := Lib.hid hc7
  have C8 := Lib.hid hc8
  clear h1 h2 h3 h4 h5 h6 h7 h8 hc1 hc2 hc3 hc4 hc5 hc6 hc7 hc8
  refine wp_region_mixTk (M := []) (fun _ => True) 42 [0, 1, 2, 3, 5, 6, 7, 8, 10, 11, 12, 13, 15, 16, 17, 18, 20, 21, 22, 23, 25, 26, 27, 28, 30, 31, 32, 33, 35, 36, 37, 38, 4, 9, 14, 19, 24, 29, 34, 39, 40, 41] (by kernel_rfl) (by kernel_rfl) ?_
  iterate 32 (refine mix_calmDk rfl rfl ?_; go_big_quiet_step (fail); refine wpQuiet_nil ?_)
  clear q0 q1 q2 q3 q4 q5 q6 q7 q8 q9 t0 t1 t2 t3 t4 t5 t6 t7 t8 t9
  refine mix_loudDk rfl (by kernel_rfl) rfl ?_
  intro K1 hK1
  have HK := Lib.hid hK1
  clear hK1 
  go_wp2_with fail
  refine (C1.out W.drew).mono ?_
  rintro x w1 ⟨rfl, b1⟩
  have HB1 := Lib.hid b1
  clear b1 C1
  go_wp2_with fail
  refine HK.out _ _ (Stand.of_below HB1.out) ?_
  clear HK
  refine mix_loudDk rfl (by kernel_rfl) rfl ?_
  intro K1 hK1
  have HK := Lib.hid hK1
  clear hK1 
  go_wp2_with fail
  refine (C2.out w1).mono ?_
  rintro x w2 ⟨rfl, rfl⟩
  clear C2
  go_wp2_with fail
  refine HK.out _ _ (Stand.refl _ _) ?_
  clear HK
  refine mix_loudDk rfl (by kernel_rfl) rfl ?_
  intro K1 hK1
  have HK := Lib.hid hK1
  clear hK1 
  go_wp2_with fail
  refine (C3.out w1).mono ?_
  rintro x w2 ⟨rfl, rfl⟩
  clear C3
  go_wp2_with fail
  refine HK.out _ _ (Stand.refl _ _) ?_
  clear HK
  refine mix_loudDk rfl (by kernel_rfl) rfl ?_
  intro K1 hK1
  have HK := Lib.hid hK1
  clear hK1 
  go_wp2_with fail
  refine (C4.out w1).mono ?_
  rintro x w2 ⟨rfl, rfl⟩
  clear C4
  go_wp2_with fail
  refine HK.out _ _ (Stand.refl _ _) ?_
  clear HK
  refine mix_loudDk rfl (by kernel_rfl) rfl ?_
  intro K1 hK1
  have HK := Lib.hid hK1
  clear hK1 
  go_wp2_with fail
  refine (C5.out w1).mono ?_
  rintro x w2 ⟨rfl, rfl⟩
  clear C5
  go_wp2_with fail
  refine HK.out _ _ (Stand.refl _ _) ?_
  clear HK
  refine mix_loudDk rfl (by kernel_rfl) rfl ?_
  intro K1 hK1
  have HK := Lib.hid hK1
  clear hK1 
  go_wp2_with fail
  refine (C6.out w1).mono ?_
  rintro x w2 ⟨rfl, rfl⟩
  clear C6
  go_wp2_with fail
  refine HK.out _ _ (Stand.refl _ _) ?_
  clear HK
  refine mix_loudDk rfl (by kernel_rfl) rfl ?_
  intro K1 hK1
  have HK := Lib.hid hK1
  clear hK1 
  go_wp2_with fail
  refine (C7.out w1).mono ?_
  rintro x w2 ⟨rfl, rfl⟩
  clear C7
  go_wp2_with fail
  refine HK.out _ _ (Stand.refl _ _) ?_
  clear HK
  refine mix_loudDk rfl (by kernel_rfl) rfl ?_
  intro K1 hK1
  have HK := Lib.hid hK1
  clear hK1 
  go_wp2_with fail
  refine (C8.out w1 (((HR1.out.drewN 1).below HB1.out).more HB1.out.size) (((HR2.out.drewN 1).below HB1.out).more HB1.out.size)).mono ?_
  rintro x w2 ⟨rfl, b2⟩
  have HB2 := Lib.hid b2
  clear b2 C8
  go_wp2_with fail
  refine HK.out _ _ (Stand.of_below HB2.out) ?_
  clear HK
  refine mix_loudDk rfl (by kernel_rfl) rfl ?_
  intro K1 hK1
  have HK := Lib.hid hK1
  clear hK1 
  go_wp2_with fail
  refine HK.out _ _ ((Stand.refl _ _).alloc _) ?_
  clear HK
  have BO : Blk (w2.alloc (.cells ([R1, R2, R3, R4, R5, R6, R7, R8].map (Value.int .i64)).toArray 3)) w2.heap.size 3 ([R1, R2, R3, R4, R5, R6, R7, R8].map (Value.int .i64)).toArray := Blk.new _ _ _
  have HO := Lib.hid (cmp_Or (w2.alloc (.cells ([R1, R2, R3, R4, R5, R6, R7, R8].map (Value.int .i64)).toArray 3)) w2.heap.size [R1, R2, R3, R4, R5, R6, R7, R8] 8 rfl (ints_cell BO) (by decide))
  rw [← HM.out] at HO
  have hBe : Below w.heap.size w (w2.alloc (.cells ([R1, R2, R3, R4, R5, R6, R7, R8].map (Value.int .i64)).toArray 3)) := (((below_drewN hB 1).trans (HB1.out.mono hB.size)).trans (HB2.out.mono (Nat.le_trans hB.size HB1.out.size))).alloc (Nat.le_trans (Nat.le_trans hB.size HB1.out.size) HB2.out.size) _
  clear BO HM HB1 HB2 HR1 HR2 BK1 BK2 hB
  refine mix_loudDk rfl (by kernel_rfl) rfl ?_
  intro K1 hK1
  have HK := Lib.hid hK1
  clear hK1 
  go_wp2_with fail
  refine (HO.out).mono ?_
  rintro x w3 ⟨rfl, rfl⟩
  go_wp2_with fail
  refine HK.out _ _ (Stand.refl _ _) ?_
  clear HK
  refine mix_endDk ?_
  go_wp2_with fail
  go_ret
  exact ⟨rfl, hBe⟩
end Go.Proofs.Ytfkooohnaodjmaa
