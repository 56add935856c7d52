/- Contracts of the law's own 'right' and 'bytes', of rows of numbers. -/
import Derived.Test.YtfebncpfhdgkpaaGapsB
import Derived.Test.YtfebncpfhdgkpaaIntsEq
import Derived.Test.YtfebncpfhdgkpaaWireC
namespace Go.Proofs.Ytfebncpfhdgkpaa
open Go.RowKit Go.Sort

set_option maxRecDepth 100000 in
set_option maxHeartbeats 1000000 in
theorem law47_right_no (A : Option Addr) (n c : Nat) (l : List Int) (w : World) (B : Nat) (hr : Reads w B 1 A n (l.map vi)) (hn : n ≤ 9223372036854775807) (hno : ¬ (n ≤ 4096 ∧ Rise l)) :
    Calls Try.prog 50 #[.slice A n c] w fun e w' => e = .returned (.bool false) ∧ Below w.heap.size w w' := by
  have HR := Lib.hid hr
  have HN := Lib.hid hno
  have hll : l.length = n := by have := hr.1; simpa using this
  have HL := Lib.hid hll
  clear hr hno hll
  go_enter Try.func50, Try.ntmps50
  go_wp2_with fail
  go_loopw [3] (fun v3 wr => ∃ k m : Nat, v3 = .int .i64 k ∧ k ≤ n ∧ RiseTo l k ∧ wr = w.drewN m) (fun v3 _ => n - (intOf v3).toNat)
  case atStart => exact ⟨0, 0, rfl, Nat.zero_le _, fun i x h => absurd h (by omega), rfl⟩
  case round =>
    obtain ⟨k, m, rfl, hk, hT, rfl⟩ := hrel
    by_cases hkn : k < n
    · obtain ⟨_, b, off, rfl, hb, hc⟩ := ints_cell HR.out (by omega)
      have hkl : k < l.length := by have := HL.out; omega
      obtain ⟨x, hx⟩ : ∃ x, l[k]? = some x := ⟨_, List.getElem?_eq_getElem hkl⟩
      have q0 : ∀ m, (w.drewN m).cell? ⟨b, off + k, none⟩ = some (.int .i64 x) := fun _ => hc k x hx
      have hcase : (decide (x < 0) = true) ∨ (decide (x < 0) = false ∧ decide (4611686018427387904 ≤ x) = true) ∨ (decide (x < 0) = false ∧ decide (4611686018427387904 ≤ x) = false ∧ decide (0 < k) = false ∧ RiseTo l (k + 1)) ∨
          (decide (x < 0) = false ∧ decide (4611686018427387904 ≤ x) = false ∧ 0 < k ∧ ∃ p, (∀ m, (w.drewN m).cell? ⟨b, off + (k - 1), none⟩ = some (.int .i64 p)) ∧ (decide (x ≤ p) = true ∨ (decide (x ≤ p) = false ∧ RiseTo l (k + 1)))) := by
        by_cases h1 : x < 0
        · exact .inl (by simpa using h1)
        by_cases h2 : 4611686018427387904 ≤ x
        · exact .inr (.inl ⟨by simpa using h1, by simpa using h2⟩)
        rcases Nat.eq_zero_or_pos k with h0 | h0
        · exact .inr (.inr (.inl ⟨by simpa using h1, by simpa using h2, by simp [h0], riseTo_succ hT hx (by omega) (by omega) (fun h => absurd h (by omega))⟩))
        · obtain ⟨p, hp⟩ : ∃ p, l[k - 1]? = some p := ⟨_, List.getElem?_eq_getElem (by omega)⟩
          refine .inr (.inr (.inr ⟨by simpa using h1, by simpa using h2, h0, p, fun _ => hc _ _ hp, ?_⟩))
          by_cases h3 : x ≤ p
          · exact .inl (by simpa using h3)
          · refine .inr ⟨by simpa using h3, riseTo_succ hT hx (by omega) (by omega) (fun _ p' hp' => ?_)⟩
            rw [hp] at hp'
            injection hp' with hp'
            omega
      clear hT hx hc
      rcases hcase with h1 | ⟨h1, h2⟩ | ⟨h1, h2, h3, h4⟩ | ⟨h1, h2, h3, p, q1, h4 | ⟨h4, h5⟩⟩
      · go_wp2_with fail
        go_quiet (fail)
        go_wp2_with fail
        go_ret
        exact ⟨rfl, below_drewN (below_drewN (Below.refl _ _) _) _⟩
      · go_wp2_with fail
        go_quiet (fail)
        go_wp2_with fail
        go_ret
        exact ⟨rfl, below_drewN (below_drewN (Below.refl _ _) _) _⟩
      · have H4 := Lib.hid h4
        clear h4
        go_wp2_with fail
        go_quiet (fail)
        go_wp2_with fail
        go_roundw
        case rel => exact ⟨k + 1, _, by go_num, by omega, H4.out, rfl⟩
        case measure => simp [intOf]; omega
      · go_wp2_with fail
        go_quiet (fail)
        go_wp2_with fail
        go_ret
        exact ⟨rfl, below_drewN (below_drewN (Below.refl _ _) _) _⟩
      · have H4 := Lib.hid h5
        clear h5
        go_wp2_with fail
        go_quiet (fail)
        go_wp2_with fail
        go_roundw
        case rel => exact ⟨k + 1, _, by go_num, by omega, H4.out, rfl⟩
        case measure => simp [intOf]; omega
    · have hbig : 4096 < n := by
        have h9 : Rise l := rise_of_to (by rw [HL.out]; rwa [show k = n by omega] at hT)
        have h8 := HN.out
        by_cases h7 : n ≤ 4096
        · exact absurd ⟨h7, h9⟩ h8
        · omega
      have hd : decide ((n : Int) ≤ 4096) = false := by simp; omega
      clear hT
      go_wp2_with fail
      go_ret
      exact ⟨rfl, below_drewN (Below.refl _ _) _⟩

set_option maxRecDepth 100000 in
set_option maxHeartbeats 1000000 in
theorem law47_right_yes (A : Option Addr) (n c : Nat) (l : List Int) (w : World) (B : Nat) (hr : Reads w B 1 A n (l.map vi)) (hn : n ≤ 4096) (hR : Rise l) :
    Calls Try.prog 50 #[.slice A n c] w fun e w' => e = .returned (.bool true) ∧ Below w.heap.size w w' := by
  have HR := Lib.hid hr
  have HN := Lib.hid hR
  have hll : l.length = n := by have := hr.1; simpa using this
  have HL := Lib.hid hll
  clear hr hR hll
  go_enter Try.func50, Try.ntmps50
  go_wp2_with fail
  go_loopw [3] (fun v3 wr => ∃ k m : Nat, v3 = .int .i64 k ∧ k ≤ n ∧ wr = w.drewN m) (fun v3 _ => n - (intOf v3).toNat)
  case atStart => exact ⟨0, 0, rfl, Nat.zero_le _, rfl⟩
  case round =>
    obtain ⟨k, m, rfl, hk, rfl⟩ := hrel
    by_cases hkn : k < n
    · obtain ⟨_, b, off, rfl, hb, hc⟩ := ints_cell HR.out (by omega)
      have hkl : k < l.length := by have := HL.out; omega
      obtain ⟨x, hx⟩ : ∃ x, l[k]? = some x := ⟨_, List.getElem?_eq_getElem hkl⟩
      have q0 : ∀ m, (w.drewN m).cell? ⟨b, off + k, none⟩ = some (.int .i64 x) := fun _ => hc k x hx
      obtain ⟨r1, r2, r3⟩ := HN.out k x hx
      have h1 : decide (x < 0) = false := by simp; omega
      have h2 : decide (4611686018427387904 ≤ x) = false := by simp; omega
      have hcase : decide (0 < k) = false ∨ (0 < k ∧ ∃ p, (∀ m, (w.drewN m).cell? ⟨b, off + (k - 1), none⟩ = some (.int .i64 p)) ∧ decide (x ≤ p) = false) := by
        rcases Nat.eq_zero_or_pos k with h0 | h0
        · exact .inl (by simp [h0])
        · obtain ⟨p, hp⟩ : ∃ p, l[k - 1]? = some p := ⟨_, List.getElem?_eq_getElem (by omega)⟩
          exact .inr ⟨h0, p, fun _ => hc _ _ hp, by have := r3 h0 p hp; simp; omega⟩
      clear hx hc r3 r1 r2
      rcases hcase with h3 | ⟨h3, p, q1, h4⟩
      all_goals
        go_wp2_with fail
        go_quiet (fail)
        go_wp2_with fail
        go_roundw
        case rel => exact ⟨k + 1, _, by go_num, by omega, rfl⟩
        case measure => simp [intOf]; omega
    · have hd : decide ((n : Int) ≤ 4096) = true := by simp; omega
      go_wp2_with fail
      go_ret
      exact ⟨rfl, below_drewN (Below.refl _ _) _⟩

theorem Own.reads_ {w : World} {base : Nat} {v : Value} {l : List UInt8} (h : Own w base v l) : ∃ A c, v = .slice A l.length c ∧ l.length ≤ c ∧ (A = none → c = 0) ∧ Reads w w.heap.size 1 A l.length (l.map vb) := by
  obtain ⟨A, c, hv, hc, hA, _⟩ := own_form h
  subst hv
  exact ⟨A, c, rfl, hc, hA, Reads.of_own h⟩

def BytesGRel (w : World) (l : List Int) (n : Nat) (v3 v4 : Value) (wr : World) : Prop :=
  ∃ k : Nat, v4 = .int .i64 k ∧ k ≤ n ∧ Own wr w.heap.size v3 (wput n ++ gl none (l.take k)) ∧ Below w.heap.size w wr

set_option maxRecDepth 100000 in
set_option maxHeartbeats 1000000 in
theorem law47_bytes (A : Option Addr) (n c : Nat) (l : List Int) (w : World) (hr : Reads w w.heap.size 1 A n (l.map vi)) (hn : n ≤ 4096) (hR : Rise l) :
    Calls Try.prog 51 #[.slice A n c] w (Fresh w (gput l)) := by
  have HR := Lib.hid hr
  have HN := Lib.hid hR
  have hll : l.length = n := by have := hr.1; simpa using this
  have HL := Lib.hid hll
  clear hr hR hll
  go_enter Try.func51, Try.ntmps51
  go_wp2_with fail
  refine (ref03_Put n w (by omega)).mono ?_
  rintro e w1 ⟨v1, rfl, O1, hB⟩
  go_wp2_with fail
  go_loopw [3, 4] (fun v3 v4 wr => BytesGRel w l n v3 v4 wr) (fun _ v4 _ => n - (intOf v4).toNat)
  case atStart => exact ⟨0, rfl, Nat.zero_le _, by simpa [gl, wputI] using O1, hB⟩
  case round =>
    clear O1 hB
    obtain ⟨q, rfl, hq, O, hB⟩ := hrel
    have hgl : (wput n ++ gl none (l.take q)).length ≤ 40000 := by
      have h1 := wput_length n (by omega)
      have h2 := gl_length none (l.take q) (by simp) (fun x hx => by
        obtain ⟨i, hi⟩ := List.getElem?_of_mem hx
        have hil : i < q := by have := (List.getElem?_eq_some_iff.1 hi).1; rw [List.length_take] at this; omega
        rw [List.getElem?_take_of_lt hil] at hi
        have := HN.out i x hi
        omega)
      have h3 : (l.take q).length ≤ q := by rw [List.length_take]; omega
      rw [List.length_append]
      omega
    have HGL := Lib.hid hgl
    have hbw := hB.size
    clear hgl
    by_cases hqn : q < n
    · obtain ⟨_, b, off, rfl, hb, hc⟩ := ints_cell (HR.out.below hB) (by omega)
      have hql : q < l.length := by have := HL.out; omega
      obtain ⟨x, hx⟩ : ∃ x, l[q]? = some x := ⟨_, List.getElem?_eq_getElem hql⟩
      obtain ⟨r1, r2, r3⟩ := HN.out q x hx
      have q0 := hc q x hx
      have q0' : ∀ m, (wr.drewN m).cell? ⟨b, off + q, none⟩ = some (.int .i64 x) := fun _ => q0
      have hx' : l[q] = x := by rw [List.getElem?_eq_getElem hql] at hx; injection hx
      have hsn := gl_snoc none (l.take q) x
      rw [← hx', ← List.take_succ_eq_append_getElem hql, hx'] at hsn
      have hcase : (decide (0 < q) = false ∧ gl none (l.take (q + 1)) = gl none (l.take q) ++ wputI x) ∨
          (0 < q ∧ ∃ p, (∀ m, (wr.drewN m).cell? ⟨b, off + (q - 1), none⟩ = some (.int .i64 p)) ∧ 0 ≤ p ∧ p < x ∧ gl none (l.take (q + 1)) = gl none (l.take q) ++ wputI (x - p - 1)) := by
        rcases Nat.eq_zero_or_pos q with h0 | h0
        · left
          subst h0
          exact ⟨by simp, hsn⟩
        · right
          have hp : l[q - 1]? = some (l[q - 1]'(by omega)) := List.getElem?_eq_getElem (by omega)
          rw [take_last l q h0 hql] at hsn
          refine ⟨h0, _, fun _ => hc _ _ hp, (HN.out _ _ hp).1, r3 h0 _ hp, ?_⟩
          rw [hsn]
          congr 2
          simp only [Option.or, gap]
          omega
      have HO2 := Lib.hid O
      clear hx hc r3 hsn hx' O
      rcases hcase with ⟨h3, hg⟩ | ⟨h3, p, q1, p0, p1, hg⟩
      · have HG := Lib.hid hg
        clear hg
        go_wp2_with fail
        refine (ref03_Put x wr (by omega)).mono ?_
        rintro e w2 ⟨v2, rfl, O2, b2⟩
        obtain ⟨A2, c2, rfl, _, RD2⟩ := O2.reads
        have O3 := HO2.out.below b2
        have hB2 := hB.trans (b2.mono hB.size)
        have hl2 := wput_length x.toNat (by omega)
        have HL2 := Lib.hid hl2
        clear O2 b2 hl2
        go_wp2_with (at_builtin; refine append_bytes w2 rfl _ _ rfl w.heap.size _ (wput n ++ gl none (l.take q)) rfl O3 A2 _ c2 (wputI x) rfl RD2 (by have := HGL.out; have := HL2.out; unfold wputI; omega) hB2.size ?_; intro v4 w4 O4 G4 L4)
        have hB4 := below_own hB2 hB2.size O3 (Nat.le_refl _) G4
        go_roundw
        case rel => exact ⟨q + 1, by go_num, by omega, by rw [HG.out]; simpa using O4, hB4⟩
        case measure => simp [intOf]; omega
      · have HG := Lib.hid hg
        clear hg
        go_wp2_with fail
        go_quiet (fail)
        have O0 : Own (wr.drewN nq) w.heap.size _ _ := HO2.out.drewN nq
        have hB0 : Below w.heap.size w (wr.drewN nq) := below_drewN hB nq
        generalize wr.drewN nq = V at *
        go_wp2_with fail
        refine (ref03_Put (x - p - 1) V (by omega)).mono ?_
        rintro e w2 ⟨v2, rfl, O2, b2⟩
        obtain ⟨A2, c2, rfl, _, RD2⟩ := O2.reads
        have O3 := O0.below b2
        have hB2 := hB0.trans (b2.mono hB0.size)
        have hl2 := wput_length (x - p - 1).toNat (by omega)
        have HL2 := Lib.hid hl2
        clear O2 b2 hl2
        go_wp2_with (at_builtin; refine append_bytes w2 rfl _ _ rfl w.heap.size _ (wput n ++ gl none (l.take q)) rfl O3 A2 _ c2 (wputI (x - p - 1)) rfl RD2 (by have := HGL.out; have := HL2.out; unfold wputI; omega) hB2.size ?_; intro v4 w4 O4 G4 L4)
        have hB4 := below_own hB2 hB2.size O3 (Nat.le_refl _) G4
        go_roundw
        case rel => exact ⟨q + 1, by go_num, by omega, by rw [HG.out]; simpa using O4, hB4⟩
        case measure => simp [intOf]; omega
    · have hll := HL.out
      rw [List.take_of_length_le (by omega)] at O
      have O' : Own wr w.heap.size u3 (gput l) := by unfold gput; rw [hll]; exact O
      clear O hll
      go_wp2_with fail
      go_ret
      exact ⟨_, rfl, O', hB⟩
end Go.Proofs.Ytfebncpfhdgkpaa
