/- Contracts of gaps.Put and gaps.Size. -/
import Derived.Test.YtfebncpfhdgkpaaGapsA
import Derived.Test.YtfebncpfhdgkpaaWireA
namespace Go.Proofs.Ytfebncpfhdgkpaa
open Go.RowKit

theorem ints_cell {w : World} {B n : Nat} {A : Option Addr} {l : List Int} (h : Reads w B 1 A n (l.map vi)) (hn : 0 < n) : l.length = n ∧ ∃ b off, A = some ⟨b, off, none⟩ ∧ b < B ∧ ∀ (k : Nat) (x : Int), l[k]? = some x → w.cell? ⟨b, off + k, none⟩ = some (.int .i64 x) := by
  obtain ⟨b, off, hA, hb, hc⟩ := h.form hn
  exact ⟨by have := h.1; simpa using this, b, off, hA, hb, fun k x hk => hc k _ (by rw [List.getElem?_map, hk]; rfl)⟩

/-- The row rises, as far as k. -/
def RiseTo (l : List Int) (k : Nat) : Prop := ∀ (i : Nat) (x : Int), i < k → l[i]? = some x → 0 ≤ x ∧ x < 4611686018427387904 ∧ (0 < i → ∀ p : Int, l[i - 1]? = some p → p < x)
theorem riseTo_succ {l : List Int} {k : Nat} {x : Int} (h : RiseTo l k) (hx : l[k]? = some x) (h0 : 0 ≤ x) (h1 : x < 4611686018427387904) (h2 : 0 < k → ∀ p : Int, l[k - 1]? = some p → p < x) : RiseTo l (k + 1) := by
  intro i y hi hy
  rcases Nat.lt_or_ge i k with hlt | hge
  · exact h i y hlt hy
  · have : i = k := by omega
    subst this
    rw [hx] at hy
    injection hy with hy
    subst hy
    exact ⟨h0, h1, h2⟩
theorem rise_of_to {l : List Int} (h : RiseTo l l.length) : Rise l := fun i x hx => h i x (List.getElem?_eq_some_iff.1 hx).1 hx

set_option maxRecDepth 100000 in
set_option maxHeartbeats 1000000 in
theorem gaps_Put_no (v : Value) (A : Option Addr) (n c : Nat) (l : List Int) (w : World) (B : Nat) (hr : Reads w B 1 A n (l.map vi)) (hn : n ≤ 9223372036854775807) (hno : ¬ (n ≤ 4096 ∧ Rise l)) :
    Calls Try.prog 53 #[v, .slice A n c] w fun e w' => e = .returned (.tuple #[v, .bool false]) ∧ w = w' := by
  by_cases hbig : 4096 < n
  · have hd : decide (4096 < (n : Int)) = true := by simp; omega
    go_enter Try.func53, Try.ntmps53
    go_wp2_with fail
    go_ret2
    exact ⟨rfl, rfl⟩
  have hd : decide (4096 < (n : Int)) = false := by simp; omega
  have hno' : ¬ Rise l := fun h => hno ⟨by omega, h⟩
  have HR := Lib.hid hr
  have HN := Lib.hid hno'
  have hll : l.length = n := by have := hr.1; simpa using this
  have HL := Lib.hid hll
  clear hr hno hno' hll
  go_enter Try.func53, Try.ntmps53
  go_wp2_with fail
  go_loop [16] (fun v16 => ∃ k : Nat, v16 = .int .i64 k ∧ k ≤ n ∧ RiseTo l k) (fun v16 => n - (intOf v16).toNat)
  case atStart => exact ⟨0, rfl, Nat.zero_le _, fun i x h => absurd h (by omega)⟩
  case round =>
    obtain ⟨k, rfl, hk, hT⟩ := hrel
    by_cases hkn : k < n
    · obtain ⟨_, b, off, rfl, hb, hc⟩ := ints_cell HR.out (by omega)
      have hkl : k < l.length := by have := HL.out; omega
      obtain ⟨x, hx⟩ : ∃ x, l[k]? = some x := ⟨_, List.getElem?_eq_getElem hkl⟩
      have q0 := hc k x hx
      have hcase : (decide (x < 0) = true) ∨ (decide (x < 0) = false ∧ decide (4611686018427387904 ≤ x) = true) ∨ (decide (x < 0) = false ∧ decide (4611686018427387904 ≤ x) = false ∧ decide (0 < k) = false ∧ RiseTo l (k + 1)) ∨
          (decide (x < 0) = false ∧ decide (4611686018427387904 ≤ x) = false ∧ 0 < k ∧ ∃ p, w.cell? ⟨b, off + (k - 1), none⟩ = some (.int .i64 p) ∧ (decide (x ≤ p) = true ∨ (decide (x ≤ p) = false ∧ RiseTo l (k + 1)))) := by
        by_cases h1 : x < 0
        · exact .inl (by simpa using h1)
        by_cases h2 : 4611686018427387904 ≤ x
        · exact .inr (.inl ⟨by simpa using h1, by simpa using h2⟩)
        rcases Nat.eq_zero_or_pos k with h0 | h0
        · exact .inr (.inr (.inl ⟨by simpa using h1, by simpa using h2, by simp [h0], riseTo_succ hT hx (by omega) (by omega) (fun h => absurd h (by omega))⟩))
        · obtain ⟨p, hp⟩ : ∃ p, l[k - 1]? = some p := ⟨_, List.getElem?_eq_getElem (by omega)⟩
          refine .inr (.inr (.inr ⟨by simpa using h1, by simpa using h2, h0, p, hc _ _ hp, ?_⟩))
          by_cases h3 : x ≤ p
          · exact .inl (by simpa using h3)
          · refine .inr ⟨by simpa using h3, riseTo_succ hT hx (by omega) (by omega) (fun _ p' hp' => ?_)⟩
            rw [hp] at hp'
            injection hp' with hp'
            omega
      have HT := Lib.hid hT
      clear hT hx hc
      rcases hcase with h1 | ⟨h1, h2⟩ | ⟨h1, h2, h3, h4⟩ | ⟨h1, h2, h3, p, q1, h4 | ⟨h4, h5⟩⟩
      · go_wp2_with fail
        go_ret2
        exact ⟨rfl, rfl⟩
      · go_wp2_with fail
        go_ret2
        exact ⟨rfl, rfl⟩
      · have H4 := Lib.hid h4
        clear h4
        go_wp2_with fail
        go_round
        case rel => exact ⟨k + 1, by go_num, by omega, H4.out⟩
        case measure => simp [intOf]; omega
      · go_wp2_with fail
        go_ret2
        exact ⟨rfl, rfl⟩
      · have H4 := Lib.hid h5
        clear h5
        go_wp2_with fail
        go_round
        case rel => exact ⟨k + 1, by go_num, by omega, H4.out⟩
        case measure => simp [intOf]; omega
    · exact absurd (rise_of_to (by rw [HL.out]; rwa [show k = n by omega] at hT)) HN.out

/-- What a Put of a row hands back. -/
def PutsT (w : World) (base : Nat) (v : Value) (l : List UInt8) (e : Ending) (w' : World) : Prop := ∃ v', e = .returned (.tuple #[v', .bool true]) ∧ Own w' base v' l ∧ w.grownBy w' v.ownBlock ∧ Lies w v v'

/-- The second loop: the bytes of the first k numbers lie behind. -/
def PutGRel (w : World) (base : Nat) (v : Value) (bs : List UInt8) (l : List Int) (n : Nat) (v0 v48 : Value) (wr : World) : Prop :=
  ∃ k : Nat, v48 = .int .i64 k ∧ k ≤ n ∧ Own wr base v0 (bs ++ (wput n ++ gl none (l.take k))) ∧ w.grownBy wr v.ownBlock ∧ Lies w v v0

set_option maxRecDepth 100000 in
set_option maxHeartbeats 1000000 in
theorem gaps_Put_yes (base : Nat) (v : Value) (bs : List UInt8) (A : Option Addr) (n c : Nat) (l : List Int) (w : World) (hown : Own w base v bs) (hbase : base ≤ w.heap.size) (hlen : bs.length ≤ 140737488000000) (hr : Reads w base 1 A n (l.map vi)) (hn : n ≤ 4096) (hR : Rise l) :
    Calls Try.prog 53 #[v, .slice A n c] w (PutsT w base v (bs ++ gput l)) := by
  have hd : decide (4096 < (n : Int)) = false := by simp; omega
  have HR := Lib.hid hr
  have HN := Lib.hid hR
  have hll : l.length = n := by have := hr.1; simpa using this
  have HL := Lib.hid hll
  have HO := Lib.hid hown
  clear hr hR hll hown
  go_enter Try.func53, Try.ntmps53
  go_wp2_with fail
  go_loop [16] (fun v16 => ∃ k : Nat, v16 = .int .i64 k ∧ k ≤ n) (fun v16 => n - (intOf v16).toNat)
  case atStart => exact ⟨0, rfl, Nat.zero_le _⟩
  case round =>
    obtain ⟨k, rfl, hk⟩ := hrel
    by_cases hkn : k < n
    · obtain ⟨_, b, off, rfl, hb, hc⟩ := ints_cell HR.out (by omega)
      have hkl : k < l.length := by have := HL.out; omega
      obtain ⟨x, hx⟩ : ∃ x, l[k]? = some x := ⟨_, List.getElem?_eq_getElem hkl⟩
      have q0 := hc k x hx
      obtain ⟨r1, r2, r3⟩ := HN.out k x hx
      have h1 : decide (x < 0) = false := by simp; omega
      have h2 : decide (4611686018427387904 ≤ x) = false := by simp; omega
      have hcase : decide (0 < k) = false ∨ (0 < k ∧ ∃ p, w.cell? ⟨b, off + (k - 1), none⟩ = some (.int .i64 p) ∧ decide (x ≤ p) = false) := by
        rcases Nat.eq_zero_or_pos k with h0 | h0
        · exact .inl (by simp [h0])
        · obtain ⟨p, hp⟩ : ∃ p, l[k - 1]? = some p := ⟨_, List.getElem?_eq_getElem (by omega)⟩
          exact .inr ⟨h0, p, hc _ _ hp, by have := r3 h0 p hp; simp; omega⟩
      clear hx hc r3 r1 r2
      rcases hcase with h3 | ⟨h3, p, q1, h4⟩
      all_goals
        go_wp2_with fail
        go_round
        case rel => exact ⟨k + 1, by go_num, by omega⟩
        case measure => simp [intOf]; omega
    · have hlt : decide (k < n) = false := by simp; omega
      go_wp2_with fail
      refine (wire_Put w base v bs n HO.out hbase (by omega) (by omega)).mono ?_
      rintro e w1 ⟨v1, rfl, O1, G1, L1⟩
      go_wp2_with fail
      go_loopw [0, 48] (fun v0 v48 wr => PutGRel w base v bs l n v0 v48 wr) (fun _ v48 _ => n - (intOf v48).toNat)
      case atStart => exact ⟨0, rfl, Nat.zero_le _, by simpa [gl, wputI] using O1, G1, L1⟩
      case round =>
        clear O1 G1 L1
        obtain ⟨q, rfl, hq, O, G, L⟩ := hrel
        have hgl : (wput n ++ gl none (l.take q)).length ≤ 40000 := by
          have h1 := wput_length n (by omega)
          have h2 := gl_length none (l.take q) (by simp) (fun x hx => by
            obtain ⟨i, hi⟩ := List.getElem?_of_mem hx
            have hil : i < q := by have := (List.getElem?_eq_some_iff.1 hi).1; rw [List.length_take] at this; omega
            rw [List.getElem?_take_of_lt hil] at hi
            have := HN.out i x hi
            omega)
          have h3 : (l.take q).length ≤ q := by rw [List.length_take]; omega
          rw [List.length_append]
          omega
        have hL9 : (bs ++ (wput n ++ gl none (l.take q))).length ≤ 140737488355000 := by rw [List.length_append]; omega
        have HL9 := Lib.hid hL9
        clear hL9 hgl
        have hbw : base ≤ wr.heap.size := Nat.le_trans hbase G.size
        by_cases hqn : q < n
        · have R2 := HR.out.grown G hbase (fun g hg => (HO.out.lt g hg).1)
          obtain ⟨_, b, off, rfl, hb, hc⟩ := ints_cell R2 (by omega)
          have hql : q < l.length := by have := HL.out; omega
          obtain ⟨x, hx⟩ : ∃ x, l[q]? = some x := ⟨_, List.getElem?_eq_getElem hql⟩
          have q0 := hc q x hx
          obtain ⟨r1, r2, r3⟩ := HN.out q x hx
          have hx' : l[q] = x := by rw [List.getElem?_eq_getElem hql] at hx; injection hx
          have hsn := gl_snoc none (l.take q) x
          rw [← hx', ← List.take_succ_eq_append_getElem hql, hx'] at hsn
          have hcase : (decide (0 < q) = false ∧ gl none (l.take (q + 1)) = gl none (l.take q) ++ wputI x) ∨
              (0 < q ∧ ∃ p, wr.cell? ⟨b, off + (q - 1), none⟩ = some (.int .i64 p) ∧ 0 ≤ p ∧ p < x ∧ gl none (l.take (q + 1)) = gl none (l.take q) ++ wputI (x - (p + 1))) := by
            rcases Nat.eq_zero_or_pos q with h0 | h0
            · left
              subst h0
              exact ⟨by simp, hsn⟩
            · right
              have hp : l[q - 1]? = some (l[q - 1]'(by omega)) := List.getElem?_eq_getElem (by omega)
              rw [take_last l q h0 hql] at hsn
              exact ⟨h0, _, hc _ _ hp, (HN.out _ _ hp).1, r3 h0 _ hp, hsn⟩
          have HO2 := Lib.hid O
          have HX := Lib.hid hx'
          clear hx hc r3 hsn hx' O
          rcases hcase with ⟨h3, hg⟩ | ⟨h3, p, q1, p0, p1, hg⟩
          · have HG := Lib.hid hg
            clear hg
            go_wp2_with fail
            refine (wire_Put wr base _ _ x HO2.out hbw (by omega) HL9.out).mono ?_
            rintro e w2 ⟨v2, rfl, O2, G2, L2⟩
            go_wp2_with fail
            go_roundw
            case rel => exact ⟨q + 1, by go_num, by omega, by rw [HG.out]; simpa using O2, grown_lies G L G2, lies_trans G.size L L2⟩
            case measure => simp [intOf]; omega
          · have HG := Lib.hid hg
            clear hg
            go_wp2_with fail
            refine (wire_Put wr base _ _ (x - (p + 1)) HO2.out hbw (by omega) HL9.out).mono ?_
            rintro e w2 ⟨v2, rfl, O2, G2, L2⟩
            go_wp2_with fail
            go_roundw
            case rel => exact ⟨q + 1, by go_num, by omega, by rw [HG.out]; simpa using O2, grown_lies G L G2, lies_trans G.size L L2⟩
            case measure => simp [intOf]; omega
        · have hll := HL.out
          rw [List.take_of_length_le (by omega)] at O
          have O' : Own wr base u0 (bs ++ gput l) := by unfold gput; rw [hll]; exact O
          have hqlt : decide ((q : Int) < (n : Int)) = false := by simp; omega
          clear O hll
          go_wp2_with fail
          go_ret2
          exact ⟨_, rfl, O', G, L⟩

theorem gaps_Size_no (A : Option Addr) (n c : Nat) (l : List Int) (w : World) (B : Nat) (hr : Reads w B 1 A n (l.map vi)) (hn : n ≤ 9223372036854775807) (hno : ¬ (n ≤ 4096 ∧ Rise l)) :
    Calls Try.prog 54 #[.slice A n c] w fun e w' => e = .returned (.int .i64 0) ∧ Below w.heap.size w w' := by
  have HC := Lib.hid (gaps_Put_no (.slice none 0 0) A n c l w B hr hn hno)
  clear hr hno
  go_enter Try.func54, Try.ntmps54
  go_wp2_with fail
  refine HC.out.mono ?_
  rintro e w1 ⟨rfl, rfl⟩
  go_wp2_with fail
  go_ret
  exact ⟨rfl, Below.refl _ _⟩

theorem gaps_Size_yes (A : Option Addr) (n c : Nat) (l : List Int) (w : World) (hr : Reads w w.heap.size 1 A n (l.map vi)) (hn : n ≤ 4096) (hR : Rise l) :
    Calls Try.prog 54 #[.slice A n c] w fun e w' => e = .returned (.int .i64 ((gput l).length : Int)) ∧ Below w.heap.size w w' := by
  have HC := Lib.hid (gaps_Put_yes w.heap.size (.slice none 0 0) [] A n c l w (Own.nil_ _ _) (Nat.le_refl _) (by simp) hr hn hR)
  clear hr hR
  go_enter Try.func54, Try.ntmps54
  go_wp2_with fail
  refine HC.out.mono ?_
  rintro e w1 ⟨v1, rfl, O1, G1, _⟩
  rw [List.nil_append] at O1
  obtain ⟨A1, c1, rfl, _, _⟩ := O1.reads
  have hB := below_of_grown_nil G1
  clear O1 G1
  obtain ⟨m, hm⟩ : ∃ m, (gput l).length = m := ⟨_, rfl⟩
  have HM := Lib.hid hm
  rw [hm]
  clear hm
  go_wp2_with fail
  go_ret
  exact ⟨ret_int (by rw [HM.out]), hB⟩
end Go.Proofs.Ytfebncpfhdgkpaa
