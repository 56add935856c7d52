/- Contracts of a pattern's Text, Plain and Ahead. -/
import Derived.Test.YtedegdojbhegdaaDoorGloE
import Derived.Test.YtedegdojbhegdaaDoorRnM
namespace Go.Proofs.YtedegdojbhegdaaDoor
open Go.RowKit Go.Sort

def strE (R : List Nat) : ByteArray := ⟨(encs R).toArray⟩
theorem bl_strE (R : List Nat) : bl (strE R) = encs R := rfl
theorem strE_of {S : ByteArray} {R : List Nat} (h : bl S = encs R) : S = strE R := by
  rw [bl_is S, h]
  rfl
theorem encs_len : ∀ R : List Nat, (encs R).length ≤ 4 * R.length
  | [] => by simp [encs]
  | r :: R => by
    rw [encs_cons, List.length_append, List.length_cons]
    have := enc_length r
    have := encs_len R
    omega
theorem size_bl (S : ByteArray) : S.size = (bl S).length := (bl_length S).symm

theorem ahead_stop : ∀ P : List Part, (h : (aheadP P).length < P.length) → plainP P[(aheadP P).length] = none
  | p :: t, h => by
    cases hp : plainP p with
    | none =>
      have he : aheadP (p :: t) = [] := by rw [aheadP, hp]
      simp only [he, List.length_nil, List.getElem_cons_zero]
      exact hp
    | some r =>
      have he : aheadP (p :: t) = r :: aheadP t := by rw [aheadP, hp]
      have := ahead_stop t (by rw [he] at h; simpa using h)
      simp only [he, List.length_cons, List.getElem_cons_succ]
      exact this
theorem plain_row {L : List PS} {k : Nat} (hk : k < L.length) : (plainP L[k].p).isSome = decide (k < (aheadP (L.map PS.p)).length) ∨ (aheadP (L.map PS.p)).length < k := by
  rcases Nat.lt_trichotomy k (aheadP (L.map PS.p)).length with h | h | h
  · left
    have hg := ahead_get (L.map PS.p) k h
    rw [List.getElem?_map, List.getElem?_eq_getElem hk] at hg
    have hg := Option.some.inj hg
    rw [hg]
    simp [plainP, h]
  · left
    have hs := ahead_stop (L.map PS.p) (by rw [← h, List.length_map]; exact hk)
    rw [List.getElem_map] at hs
    simp only [← h] at hs
    rw [hs]
    simp [h]
  · exact .inr h

set_option maxRecDepth 100000 in
theorem glob_Text (A : Option Addr) (n c : Nat) (t : ByteArray) (w : World) : Calls Tryd.prog 18 #[.agg #[.slice A n c, .string t]] w fun x w' => x = .returned (.string t) ∧ Below w.heap.size w w' := by
  have BP := Blk.new w 35 #[.slice A n c, .string t]
  have q1 := BP.cell 1
  go_enter Tryd.func18, Tryd.ntmps18
  go_wp2_with fail
  go_ret
  exact ⟨rfl, (Below.refl _ _).alloc (Nat.le_refl _) _⟩

/-- What tells whether a part is plain. -/
theorem plain_cases {w : World} {B : Nat} (e : PS) (hr : Reads w B 2 e.A e.n e.x) (hk : e.p.kind ≤ 3) :
    (∃ (b off r : Nat), plainP e.p = some r ∧ e.p.kind = 0 ∧ e.n = 1 ∧ e.A = some ⟨b, off, none⟩ ∧ b < B ∧ w.cell? ⟨b, off, none⟩ = some (.int .i32 (r : Int)) ∧ w.cell? ⟨b, off + 1, none⟩ = some (.int .i32 (r : Int))) ∨
    (plainP e.p = none ∧ (e.p.kind = 3 ∨ e.p.kind = 2 ∨ e.p.kind = 1 ∨ (e.p.kind = 0 ∧ e.n ≠ 1) ∨ (e.p.kind = 0 ∧ e.n = 1 ∧ ∃ (b off x y : Nat), e.A = some ⟨b, off, none⟩ ∧ b < B ∧ w.cell? ⟨b, off, none⟩ = some (.int .i32 (x : Int)) ∧ w.cell? ⟨b, off + 1, none⟩ = some (.int .i32 (y : Int)) ∧ x ≠ y))) := by
  have hl := sp_n hr
  by_cases h0 : e.p.kind = 0
  · by_cases h1 : e.n = 1
    · have hkl : 0 < e.p.spans.length := by omega
      obtain ⟨b, off, hA, hb, c0, c1⟩ := sp_at hr hkl
      obtain ⟨z, hz⟩ : ∃ z, e.p.spans = [z] := List.length_eq_one_iff.1 (by omega)
      obtain ⟨x, y⟩ := z
      simp only [hz, List.getElem_cons_zero, Nat.zero_mul, Nat.add_zero] at c0 c1
      have hp := plainP_two h0 hz
      by_cases hxy : x = y
      · subst hxy
        rw [if_pos rfl] at hp
        exact .inl ⟨b, off, x, hp, h0, h1, hA, hb, c0, c1⟩
      · rw [if_neg hxy] at hp
        exact .inr ⟨hp, .inr (.inr (.inr (.inr ⟨h0, h1, b, off, x, y, hA, hb, c0, c1, hxy⟩)))⟩
    · exact .inr ⟨plainP_n (by omega), .inr (.inr (.inr (.inl ⟨h0, h1⟩)))⟩
  · refine .inr ⟨plainP_k h0, ?_⟩
    omega

set_option maxRecDepth 100000 in
set_option maxHeartbeats 4000000 in
theorem glob_Plain (A : Option Addr) (n c : Nat) (t : ByteArray) (L : List PS) (w : World) (hp : PatR psL 4 w w.heap.size A n L) (hn : n ≤ 1000) :
    Calls Tryd.prog 23 #[.agg #[.slice A n c, .string t]] w fun x w' => x = .returned (.tuple #[.string (if allP (L.map PS.p) then strE (aheadP (L.map PS.p)) else ⟨#[]⟩), .bool (allP (L.map PS.p))]) ∧ Below w.heap.size w w' := by
  have hl := hp.n_eq
  have BP := Blk.new w 35 #[.slice A n c, .string t]
  have hB : Below w.heap.size w (w.alloc (.cells #[.slice A n c, .string t] 35)) := (Below.refl _ _).alloc (Nat.le_refl _) _
  have HP := Lib.hid hp
  have HL := Lib.hid hl
  have q0 := BP.cell 0
  obtain ⟨a, ha⟩ : ∃ a, aheadP (L.map PS.p) = a := ⟨_, rfl⟩
  have hall : allP (L.map PS.p) = decide (a.length = n) := by rw [ahead_all, ha, List.length_map, hl]
  have hale : a.length ≤ n := by rw [← ha, ← hl]; have := ahead_len (L.map PS.p); simpa using this
  obtain ⟨x0, hx0⟩ : ∃ x0, (Ending.returned (.tuple #[.string (if allP (L.map PS.p) then strE (aheadP (L.map PS.p)) else ⟨#[]⟩), .bool (allP (L.map PS.p))])) = x0 := ⟨_, rfl⟩
  rw [hx0]
  rw [hall, ha] at hx0
  have HX := Lib.hid hx0
  have HAH := Lib.hid ha
  clear hp hl hx0 ha hall
  go_enter Tryd.func23, Tryd.ntmps23
  go_wp2_with fail
  go_loopw [4, 10] (fun v4 v10 wr => ∃ (k : Nat) (S : ByteArray), v10 = .int .i64 k ∧ k ≤ a.length ∧ v4 = .string S ∧ bl S = encs (a.take k) ∧ Below w.heap.size w wr) (fun _ v10 _ => n - (RowKit.intOf v10).toNat)
  case atStart => exact ⟨0, _, rfl, Nat.zero_le _, rfl, by simp [encs]; rfl, hB⟩
  case round =>
    clear hB q0 BP
    obtain ⟨k, S, rfl, hk, rfl, hS, hB⟩ := hrel
    have HS := Lib.hid hS
    have hSz : S.size ≤ 4000 := by
      rw [size_bl, hS]
      have := encs_len (a.take k)
      have : (a.take k).length ≤ 1000 := by simp; omega
      omega
    clear hS
    by_cases hkn : k < n
    · have hkl : k < L.length := by have := HL.out; omega
      have hPr : PatR psL 4 wr w.heap.size A n L := HP.out.below hB
      obtain ⟨b, off, hA, hb, d0, d1, d2, d3⟩ := psL_at hPr hkl
      have hmem : L[k] ∈ L := List.getElem_mem hkl
      have hsm := hPr.small _ hmem
      have hpc := plain_cases L[k] (hPr.hang _ hmem) hsm.2.1
      have hpr := plain_row hkl
      rw [HAH.out] at hpr
      have hpa : ∀ r, plainP L[k].p = some r → ∃ h : k < a.length, a[k] = r := by
        intro r hr
        rcases hpr with h | h
        · rw [hr] at h
          have h2 : k < a.length := by simpa using h
          refine ⟨h2, ?_⟩
          have hg := ahead_get (L.map PS.p) k (by rw [HAH.out]; exact h2)
          rw [List.getElem?_map, List.getElem?_eq_getElem hkl] at hg
          have hg := Option.some.inj hg
          rw [hg] at hr
          simp only [HAH.out] at hr
          simpa [plainP] using hr
        · omega
      have hpn : plainP L[k].p = none → a.length = k := by
        intro hr
        rcases hpr with h | h
        · rw [hr] at h
          have : ¬ k < a.length := by simpa using h
          omega
        · omega
      have HPA := Lib.hid hpa
      have HPN := Lib.hid hpn
      clear hpr hpa hpn hsm hmem hPr
      obtain ⟨e, he⟩ : ∃ e, L[k] = e := ⟨_, rfl⟩
      rw [he] at d0 d1 d2 d3 hpc HPA HPN
      clear he
      have hBw := hB.size
      rw [hA]
      clear hA
      have BT := Blk.new wr 76 (psC e)
      have hB2 := hB.alloc hB.size (.cells (psC e) 76)
      go_upto_region 5 with fail
      unfold psC at BT hB2
      have hsame : ∀ p : Addr, p.block < w.heap.size → ∀ u, wr.cell? p = some u → (wr.alloc (.cells #[.bool (e.p.kind == 3), .bool (e.p.kind == 2), .bool (e.p.kind == 1), .slice e.A e.n e.c] 76)).cell? p = some u := fun p hp u hu => (World.cell?_alloc_lt wr _ p (by omega)).trans hu
      generalize wr.alloc (.cells #[.bool (e.p.kind == 3), .bool (e.p.kind == 2), .bool (e.p.kind == 1), .slice e.A e.n e.c] 76) = W at *
      have k0 : ∀ m, (W.drewN m).cell? ⟨wr.heap.size, 0, none⟩ = some (.bool (e.p.kind == 3)) := fun _ => BT.cell 0
      have k1 : ∀ m, (W.drewN m).cell? ⟨wr.heap.size, 1, none⟩ = some (.bool (e.p.kind == 2)) := fun _ => BT.cell 1
      have k2 : ∀ m, (W.drewN m).cell? ⟨wr.heap.size, 2, none⟩ = some (.bool (e.p.kind == 1)) := fun _ => BT.cell 2
      have k3 : ∀ m, (W.drewN m).cell? ⟨wr.heap.size, 3, none⟩ = some (.slice e.A e.n e.c) := fun _ => BT.cell 3
      clear d0 d1 d2 d3
      rcases hpc with ⟨b2, o2, r, hpl, hk0, hn1, hA2, hb2, c0, c1⟩ | ⟨hpl, hc⟩
      · obtain ⟨hka, har⟩ := HPA.out r hpl
        have C0 : ∀ m, (W.drewN m).cell? ⟨b2, o2, none⟩ = some (.int .i32 (r : Int)) := fun _ => hsame ⟨b2, o2, none⟩ hb2 _ c0
        have C1 : ∀ m, (W.drewN m).cell? ⟨b2, o2 + 1, none⟩ = some (.int .i32 (r : Int)) := fun _ => hsame ⟨b2, o2 + 1, none⟩ hb2 _ c1
        rw [hk0] at k0 k1 k2
        rw [hA2, hn1] at k3
        obtain ⟨E, hE⟩ : ∃ E, Utf8.encode (r : Int) = E := ⟨_, rfl⟩
        have hbE : bl E = enc r := by rw [← hE]; rfl
        have hEs : E.size ≤ 4 := by rw [size_bl, hbE]; exact enc_length r
        have HBE := Lib.hid hbE
        have HAR := Lib.hid har
        have hrr : ((r : Int) != (r : Int)) = false := by simp
        clear c0 c1 hpl hk0 hn1 hA2 hbE hsame har
        go_wp2_with fail
        go_quiet (fail)
        go_wp2_with fail
        go_roundw
        case rel => exact ⟨k + 1, S ++ E, by go_num, by omega, rfl, by rw [bl_append, HS.out, HBE.out, List.take_succ_eq_append_getElem hka, encs_append, HAR.out, encs_cons, encs_nil, List.append_nil], below_drewN hB2 _⟩
        case measure => simp [RowKit.intOf]; omega
      · have hak := HPN.out hpl
        have hne : a.length ≠ n := by omega
        have hB2c := hsame
        clear hsame
        rcases hc with h | h | h | ⟨h, h1⟩ | ⟨h, h1, b2, o2, x, y, hA2, hb2, c0, c1, hxy⟩
        · rw [h] at k0
          clear h hpl hak
          go_wp2_with fail
          go_quiet (fail)
          go_wp2_with fail
          refine bodyPost_ret (results_tmp2 rfl _ _ _) rfl ?_
          exact ⟨by rw [← HX.out]; simp [hne]; try rfl, below_drewN hB2 _⟩
        · rw [h] at k0 k1
          clear h hpl hak
          go_wp2_with fail
          go_quiet (fail)
          go_wp2_with fail
          refine bodyPost_ret (results_tmp2 rfl _ _ _) rfl ?_
          exact ⟨by rw [← HX.out]; simp [hne]; try rfl, below_drewN hB2 _⟩
        · rw [h] at k0 k1 k2
          clear h hpl hak
          go_wp2_with fail
          go_quiet (fail)
          go_wp2_with fail
          refine bodyPost_ret (results_tmp2 rfl _ _ _) rfl ?_
          exact ⟨by rw [← HX.out]; simp [hne]; try rfl, below_drewN hB2 _⟩
        · rw [h] at k0 k1 k2
          have hn1 : ((e.n : Int) != 1) = true := by simp; omega
          clear h hpl hak
          go_wp2_with fail
          go_quiet (fail)
          go_wp2_with fail
          refine bodyPost_ret (results_tmp2 rfl _ _ _) rfl ?_
          exact ⟨by rw [← HX.out]; simp [hne]; try rfl, below_drewN hB2 _⟩
        · rw [h] at k0 k1 k2
          rw [h1, hA2] at k3
          have C0 : ∀ m, (W.drewN m).cell? ⟨b2, o2, none⟩ = some (.int .i32 (x : Int)) := fun _ => hB2c ⟨b2, o2, none⟩ hb2 _ c0
          have C1 : ∀ m, (W.drewN m).cell? ⟨b2, o2 + 1, none⟩ = some (.int .i32 (y : Int)) := fun _ => hB2c ⟨b2, o2 + 1, none⟩ hb2 _ c1
          have hxy2 : ((x : Int) != (y : Int)) = true := by simp; omega
          clear h hpl hak h1 hA2 c0 c1
          go_wp2_with fail
          go_quiet (fail)
          go_wp2_with fail
          refine bodyPost_ret (results_tmp2 rfl _ _ _) rfl ?_
          exact ⟨by rw [← HX.out]; simp [hne]; try rfl, below_drewN hB2 _⟩
    · have hke : k = n ∨ k < n := by omega
      have hkn2 : k = n := by omega
      have hal : a.length = n := by omega
      have HR : Hid (S = strE a) := Lib.hid (strE_of (by rw [HS.out, List.take_of_length_le (by omega)]))
      go_wp2_with fail
      refine bodyPost_ret (results_tmp2 rfl _ _ _) rfl ?_
      exact ⟨by rw [← HX.out, HR.out]; simp [hal]; try rfl, hB⟩
end Go.Proofs.YtedegdojbhegdaaDoor
