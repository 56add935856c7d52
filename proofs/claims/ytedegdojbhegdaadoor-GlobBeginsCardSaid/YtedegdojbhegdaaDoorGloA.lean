/- Parts of patterns in memory; contracts of glob's one and the reference's has and plain. -/
import Derived.Test.YtedegdojbhegdaaDoorGloP
import Derived.Test.YtedegdojbhegdaaDoorHang
import Derived.Test.YtedegdojbhegdaaDoorRunes
import Derived.Test.YtedegdojbhegdaaDoorKeep
import Derived.Laws.IdiomStrings
import Derived.Deep.Cut
namespace Go.Proofs.YtedegdojbhegdaaDoor
open Go.RowKit Go.Sort

/-- A part with the place of its row of spans. -/
structure PS where
  p : Part
  A : Option Addr
  n : Nat
  c : Nat
def sp2 (q : Nat × Nat) : List Value := [.int .i32 (q.1 : Int), .int .i32 (q.2 : Int)]
theorem sp2_len (q : Nat × Nat) : (sp2 q).length = 2 := rfl
/-- A part's cells in the program, and in the reference. -/
def psC (e : PS) : Array Value := #[.bool (e.p.kind == 3), .bool (e.p.kind == 2), .bool (e.p.kind == 1), .slice e.A e.n e.c]
def psL (e : PS) : List Value := [.bool (e.p.kind == 3), .bool (e.p.kind == 2), .bool (e.p.kind == 1), .slice e.A e.n e.c]
def rsC (e : PS) : Array Value := #[.int .i64 (e.p.kind : Int), .slice e.A e.n e.c]
def rsL (e : PS) : List Value := [.int .i64 (e.p.kind : Int), .slice e.A e.n e.c]
theorem psL_len (e : PS) : (psL e).length = 4 := rfl
theorem rsL_len (e : PS) : (rsL e).length = 2 := rfl
def PS.x (e : PS) : List Value := e.p.spans.flatMap sp2
/-- A part's spans read. -/
def PSr (w : World) (B : Nat) (e : PS) : Prop := Reads w B 2 e.A e.n e.x ∧ e.n ≤ 1000000000 ∧ e.p.kind ≤ 3 ∧ (e.p.kind = 3 → e.p.spans = [])
theorem sp_n {w : World} {B : Nat} {e : PS} (h : Reads w B 2 e.A e.n e.x) : e.p.spans.length = e.n := by
  have hl := h.1
  unfold PS.x at hl
  rw [flat_len sp2 2 sp2_len] at hl
  omega
theorem sp_at {w : World} {B : Nat} {e : PS} (h : Reads w B 2 e.A e.n e.x) {k : Nat} (hk : k < e.p.spans.length) : ∃ b off, e.A = some ⟨b, off, none⟩ ∧ b < B ∧ w.cell? ⟨b, off + k * 2, none⟩ = some (.int .i32 (e.p.spans[k].1 : Int)) ∧ w.cell? ⟨b, off + k * 2 + 1, none⟩ = some (.int .i32 (e.p.spans[k].2 : Int)) := by
  have hl := sp_n h
  obtain ⟨b, off, hA, hb, hc⟩ := h.formk (by omega) (by decide)
  refine ⟨b, off, hA, hb, ?_, ?_⟩
  · have := hc (k * 2 + 0) _ ((flat_get sp2 2 sp2_len e.p.spans k 0 hk (by decide)).trans rfl)
    simpa using this
  · have := hc (k * 2 + 1) _ ((flat_get sp2 2 sp2_len e.p.spans k 1 hk (by decide)).trans rfl)
    rw [← Nat.add_assoc] at this
    exact this
theorem plainP_k {p : Part} (h : p.kind ≠ 0) : plainP p = none := by
  unfold plainP
  rw [if_neg h]
theorem plainP_n {p : Part} (h : p.spans.length ≠ 1) : plainP p = none := by
  unfold plainP
  split
  · split
    · rename_i h2
      rw [h2] at h
      exact (h rfl).elim
    · rfl
  · rfl
theorem plainP_two {p : Part} {a b : Nat} (h : p.kind = 0) (hs : p.spans = [(a, b)]) : plainP p = if a = b then some a else none := by
  unfold plainP
  rw [if_pos h, hs]
theorem inS_step (S : List (Nat × Nat)) (r k : Nat) (hk : k < S.length) : inS (S.take (k + 1)) r = (inS (S.take k) r || decide (S[k].1 ≤ r ∧ r ≤ S[k].2)) := by
  unfold inS
  rw [List.take_succ_eq_append_getElem hk, List.any_append]
  simp

set_option maxRecDepth 100000 in
set_option maxHeartbeats 1000000 in
theorem glob_one (e : PS) (r : Nat) (w : World) (hr : Reads w w.heap.size 2 e.A e.n e.x) (hn : e.n ≤ 1000000000) (hk3 : e.p.kind ≤ 2) :
    Calls Tryd.prog 53 #[.agg (psC e), .int .i32 (r : Int)] w fun x w' => x = .returned (.bool (hasP e.p r)) ∧ Below w.heap.size w w' := by
  have B1 := Blk.new w 76 (psC e)
  have hB : Below w.heap.size w (w.alloc (.cells (psC e) 76)) := (Below.refl _ _).alloc (Nat.le_refl _) _
  have hl := sp_n hr
  have HR := Lib.hid hr
  have HL := Lib.hid hl
  clear hr hl
  obtain ⟨a2, h2⟩ : ∃ b, (e.p.kind == 2) = b := ⟨_, rfl⟩
  obtain ⟨a1, h1⟩ : ∃ b, (e.p.kind == 1) = b := ⟨_, rfl⟩
  have H : Hid (hasP e.p r = ((a2 || inS e.p.spans r) != a1)) := Lib.hid (by
    unfold hasP
    rw [← h2, ← h1]
    have : e.p.kind = 0 ∨ e.p.kind = 1 ∨ e.p.kind = 2 := by omega
    rcases this with h | h | h <;> rw [h] <;> cases inS e.p.spans r <;> rfl)
  go_enter Tryd.func53, Tryd.ntmps53
  generalize hW : w.alloc (.cells (psC e) 76) = W at *
  have q1 : W.cell? ⟨w.heap.size, 1, none⟩ = some (.bool a2) := by rw [← h2]; exact B1.cell 1
  have q3 : W.cell? ⟨w.heap.size, 3, none⟩ = some (.slice e.A e.n e.c) := B1.cell 3
  go_wp2_with fail
  have q2 : W.cell? ⟨w.heap.size, 2, none⟩ = some (.bool a1) := by rw [← h1]; exact B1.cell 2
  have hlt := B1.lt
  have Q := Lib.hid q2
  clear q1 q2 q3 h1 h2 hW B1
  go_loopw [5, 7, 13] (fun v5 _ v13 wr => ∃ k : Nat, v13 = .int .i64 k ∧ k ≤ e.n ∧ v5 = .bool (a2 || inS (e.p.spans.take k) r) ∧ Below W.heap.size W wr) (fun _ _ v13 _ => e.n - (RowKit.intOf v13).toNat)
  case atStart => exact ⟨0, rfl, Nat.zero_le _, by simp [inS], Below.refl _ _⟩
  case round =>
    obtain ⟨k, rfl, hk, rfl, hBr⟩ := hrel
    by_cases hkn : k < e.n
    · have hkl : k < e.p.spans.length := by have := HL.out; omega
      obtain ⟨b, off, hA, hb, c0, c1⟩ := sp_at (HR.out.below (hB.trans (hBr.mono hB.size))) hkl
      have hst := inS_step e.p.spans r k hkl
      obtain ⟨x, hx⟩ : ∃ x, e.p.spans[k]'hkl = x := ⟨_, rfl⟩
      rw [hx] at hst c0 c1
      obtain ⟨lo, hi⟩ := x
      simp only at c0 c1 hst
      obtain ⟨u, hu⟩ : ∃ u, inS (e.p.spans.take k) r = u := ⟨_, rfl⟩
      rw [hu] at hst ⊢
      have HS := Lib.hid hst
      clear hst hx hu
      rw [hA]
      have BN := Blk.new wr 79 #[.int .i32 (lo : Int), .int .i32 (hi : Int)]
      have hB2 := hBr.alloc hBr.size (.cells #[.int .i32 (lo : Int), .int .i32 (hi : Int)] 79)
      have ct := BN.cell
      cases a2
      all_goals
        cases u
        all_goals
          by_cases hlo : lo ≤ r
          · by_cases hhi : r ≤ hi
            all_goals
              go_wp2_with fail
              go_roundw
              case rel => exact ⟨k + 1, by go_num, by omega, by rw [HS.out]; simp [hlo, hhi], hB2⟩
              case measure => simp [RowKit.intOf]; omega
          · go_wp2_with fail
            go_roundw
            case rel => exact ⟨k + 1, by go_num, by omega, by rw [HS.out]; simp [hlo], hB2⟩
            case measure => simp [RowKit.intOf]; omega
    · have hke : e.p.spans.take k = e.p.spans := List.take_of_length_le (by have := HL.out; omega)
      rw [hke]
      have q2 := (hBr.cell hlt).trans Q.out
      obtain ⟨u, hu⟩ : ∃ u, (a2 || inS e.p.spans r) = u := ⟨_, rfl⟩
      rw [hu] at H ⊢
      go_wp2_with fail
      go_ret
      exact ⟨by rw [H.out]; cases u <;> cases a1 <;> rfl, hB.trans (hBr.mono hB.size)⟩

set_option maxRecDepth 100000 in
set_option maxHeartbeats 1000000 in
theorem ref38_has (e : PS) (r : Nat) (w : World) (hr : Reads w w.heap.size 2 e.A e.n e.x) (hn : e.n ≤ 1000000000) (hk3 : e.p.kind ≤ 3) :
    Calls Tryd.prog 54 #[.agg (rsC e), .int .i32 (r : Int)] w fun x w' => x = .returned (.bool (hasP e.p r)) ∧ Below w.heap.size w w' := by
  have B1 := Blk.new w 87 (rsC e)
  have hB : Below w.heap.size w (w.alloc (.cells (rsC e) 87)) := (Below.refl _ _).alloc (Nat.le_refl _) _
  have hl := sp_n hr
  have HR := Lib.hid hr
  have HL := Lib.hid hl
  clear hr hl
  go_enter Tryd.func54, Tryd.ntmps54
  generalize hW : w.alloc (.cells (rsC e) 87) = W at *
  have q0 : W.cell? ⟨w.heap.size, 0, none⟩ = some (.int .i64 (e.p.kind : Int)) := B1.cell 0
  have q1 : W.cell? ⟨w.heap.size, 1, none⟩ = some (.slice e.A e.n e.c) := B1.cell 1
  go_wp2_with fail
  clear hW B1
  go_loop [5, 6] (fun v5 v6 => ∃ k : Nat, v6 = .int .i64 k ∧ k ≤ e.n ∧ v5 = .bool (inS (e.p.spans.take k) r)) (fun _ v6 => e.n - (RowKit.intOf v6).toNat)
  case atStart => exact ⟨0, rfl, Nat.zero_le _, by simp [inS]⟩
  case round =>
    obtain ⟨k, rfl, hk, rfl⟩ := hrel
    by_cases hkn : k < e.n
    · have hkl : k < e.p.spans.length := by have := HL.out; omega
      obtain ⟨b, off, hA, hb, c0, c1⟩ := sp_at (HR.out.below hB) hkl
      have hst := inS_step e.p.spans r k hkl
      obtain ⟨x, hx⟩ : ∃ x, e.p.spans[k]'hkl = x := ⟨_, rfl⟩
      rw [hx] at hst c0 c1
      obtain ⟨lo, hi⟩ := x
      simp only at c0 c1 hst
      obtain ⟨u, hu⟩ : ∃ u, inS (e.p.spans.take k) r = u := ⟨_, rfl⟩
      rw [hu] at hst ⊢
      have HS := Lib.hid hst
      clear hst hx hu
      rw [hA] at q1
      cases u
      all_goals
        by_cases hlo : lo ≤ r
        · by_cases hhi : r ≤ hi
          all_goals
            go_wp2_with fail
            go_round
            case rel => exact ⟨k + 1, by go_num, by omega, by rw [HS.out]; simp [hlo, hhi]⟩
            case measure => simp [RowKit.intOf]; omega
        · go_wp2_with fail
          go_round
          case rel => exact ⟨k + 1, by go_num, by omega, by rw [HS.out]; simp [hlo]⟩
          case measure => simp [RowKit.intOf]; omega
    · have hke : e.p.spans.take k = e.p.spans := List.take_of_length_le (by have := HL.out; omega)
      rw [hke]
      obtain ⟨u, hu⟩ : ∃ u, inS e.p.spans r = u := ⟨_, rfl⟩
      have H : Hid (hasP e.p r = (e.p.kind == 2 || e.p.kind == 0 && u || e.p.kind == 1 && !u)) := Lib.hid (by unfold hasP; rw [hu])
      rw [hu]
      clear hu hke
      obtain ⟨K, hK⟩ : ∃ K, e.p.kind = K := ⟨_, rfl⟩
      rw [hK] at q0 hk3 H
      clear hK
      have : K = 0 ∨ K = 1 ∨ K = 2 ∨ K = 3 := by omega
      rcases this with rfl | rfl | rfl | rfl
      all_goals
        cases u
        all_goals
          go_wp2_with fail
          go_ret
          exact ⟨by rw [H.out]; rfl, hB⟩
set_option maxRecDepth 100000 in
set_option maxHeartbeats 1000000 in
theorem ref38_plain (e : PS) (w : World) (hr : Reads w w.heap.size 2 e.A e.n e.x) (_hn : e.n ≤ 1000000000) :
    Calls Tryd.prog 55 #[.agg (rsC e)] w fun x w' => x = .returned (.bool (plainP e.p).isSome) ∧ Below w.heap.size w w' := by
  have B1 := Blk.new w 87 (rsC e)
  have hB : Below w.heap.size w (w.alloc (.cells (rsC e) 87)) := (Below.refl _ _).alloc (Nat.le_refl _) _
  have hl := sp_n hr
  have HR := Lib.hid hr
  have HL := Lib.hid hl
  clear hr hl
  have hlt := B1.lt
  obtain ⟨R, hR⟩ : ∃ R, (plainP e.p).isSome = R := ⟨_, rfl⟩
  have HP := Lib.hid hR
  rw [hR]
  clear hR
  go_enter Tryd.func55, Tryd.ntmps55
  generalize hW : w.alloc (.cells (rsC e) 87) = W at *
  have q0 : ∀ m, (W.drewN m).cell? ⟨w.heap.size, 0, none⟩ = some (.int .i64 (e.p.kind : Int)) := fun _ => B1.cell 0
  have q1 : ∀ m, (W.drewN m).cell? ⟨w.heap.size, 1, none⟩ = some (.slice e.A e.n e.c) := fun _ => B1.cell 1
  by_cases hk0 : e.p.kind = 0
  · by_cases hn1 : e.n = 1
    · have hkl : 0 < e.p.spans.length := by have := HL.out; omega
      obtain ⟨b, off, hA, hb, c0, c1⟩ := sp_at (HR.out.below hB) hkl
      obtain ⟨x, hx⟩ : ∃ x, e.p.spans[0]'hkl = x := ⟨_, rfl⟩
      rw [hx] at c0 c1
      obtain ⟨lo, hi⟩ := x
      simp only [Nat.zero_mul, Nat.add_zero] at c0 c1
      have d0 : ∀ m, (W.drewN m).cell? ⟨b, off, none⟩ = some (.int .i32 (lo : Int)) := fun _ => c0
      have d1 : ∀ m, (W.drewN m).cell? ⟨b, off + 1, none⟩ = some (.int .i32 (hi : Int)) := fun _ => c1
      have hsp : e.p.spans = [(lo, hi)] := by
        have h1 := HL.out
        rw [hn1] at h1
        obtain ⟨y, hy⟩ := List.length_eq_one_iff.1 h1
        rw [hy]
        simp only [hy, List.getElem_cons_zero] at hx
        rw [hx]
      have H : Hid (R = decide (lo = hi)) := Lib.hid (by rw [← HP.out]; rw [plainP_two hk0 hsp]; by_cases h : lo = hi <;> simp [h])
      rw [hk0] at q0
      rw [hA, hn1] at q1
      clear c0 c1 hx hsp hk0
      by_cases hlh : lo = hi
      · have e1 : ((lo : Int) == (hi : Int)) = true := by simp [hlh]
        go_wp2_with fail
        go_quiet (fail)
        go_wp2_with fail
        go_ret
        exact ⟨by rw [H.out]; simp [hlh], below_drewN hB _⟩
      · have e1 : ((lo : Int) == (hi : Int)) = false := by simp; omega
        go_wp2_with fail
        go_quiet (fail)
        go_wp2_with fail
        go_ret
        exact ⟨by rw [H.out]; simp [hlh], below_drewN hB _⟩
    · have e1 : ((e.n : Int) == 1) = false := by simp; omega
      have H : Hid (R = false) := Lib.hid (by rw [← HP.out, plainP_n (by have := HL.out; omega)]; rfl)
      rw [hk0] at q0
      go_wp2_with fail
      go_quiet (fail)
      go_wp2_with fail
      go_ret
      exact ⟨by rw [H.out]; rfl, below_drewN hB _⟩
  · have e1 : ((e.p.kind : Int) == 0) = false := by simp; omega
    have H : Hid (R = false) := Lib.hid (by rw [← HP.out, plainP_k hk0]; rfl)
    go_wp2_with fail
    go_quiet (fail)
    go_wp2_with fail
    go_ret
    exact ⟨by rw [H.out]; rfl, below_drewN hB _⟩
end Go.Proofs.YtedegdojbhegdaaDoor
