/- Contract of a pattern's Ahead. -/
import Derived.Test.YtedegdojbhegdaaDoorGloG
namespace Go.Proofs.YtedegdojbhegdaaDoor
open Go.RowKit Go.Sort

/-- What the parts ahead of the place k say of the one at it. -/
theorem ahead_at {L : List PS} {k : Nat} (hkl : k < L.length) {a : List Nat} (ha : aheadP (L.map PS.p) = a) (hk : k ≤ a.length) :
    (∀ r, plainP L[k].p = some r → ∃ h : k < a.length, a[k] = r) ∧ (plainP L[k].p = none → a.length = k) := by
  have hpr := plain_row hkl
  rw [ha] at hpr
  refine ⟨fun r hr => ?_, fun hr => ?_⟩
  · rcases hpr with h | h
    · rw [hr] at h
      have h2 : k < a.length := by simpa using h
      refine ⟨h2, ?_⟩
      have hg := ahead_get (L.map PS.p) k (by rw [ha]; exact h2)
      rw [List.getElem?_map, List.getElem?_eq_getElem hkl] at hg
      have hg := Option.some.inj hg
      rw [hg] at hr
      simp only [ha] at hr
      simpa [plainP] using hr
    · omega
  · rcases hpr with h | h
    · rw [hr] at h
      have : ¬ k < a.length := by simpa using h
      omega
    · omega
theorem one_plain {p : Part} {r : Nat} (h : plainP p = some r) : allP [p] = true ∧ aheadP [p] = [r] := by
  constructor
  · simp [allP, h]
  · rw [aheadP, h]; rfl
theorem one_not {p : Part} (h : plainP p = none) : allP [p] = false := by simp [allP, h]

set_option maxRecDepth 100000 in
set_option maxHeartbeats 4000000 in
theorem glob_Ahead (A : Option Addr) (n c : Nat) (t : ByteArray) (L : List PS) (w : World) (hp : PatR psL 4 w w.heap.size A n L) (hn : n ≤ 1000) :
    Calls Tryd.prog 24 #[.agg #[.slice A n c, .string t]] w fun x w' => x = .returned (.string (strE (aheadP (L.map PS.p)))) ∧ Below w.heap.size w w' := by
  have hl := hp.n_eq
  have BP := Blk.new w 35 #[.slice A n c, .string t]
  have hB : Below w.heap.size w (w.alloc (.cells #[.slice A n c, .string t] 35)) := (Below.refl _ _).alloc (Nat.le_refl _) _
  have HP := Lib.hid hp
  have HL := Lib.hid hl
  have q0 := BP.cell 0
  obtain ⟨a, ha⟩ : ∃ a, aheadP (L.map PS.p) = a := ⟨_, rfl⟩
  rw [ha]
  have hale : a.length ≤ n := by rw [← ha, ← hl]; have := ahead_len (L.map PS.p); simpa using this
  have HAH := Lib.hid ha
  clear hp hl ha
  go_enter Tryd.func24, Tryd.ntmps24
  go_wp2_with fail
  go_loopw [3, 11] (fun v3 v11 wr => ∃ (k : Nat) (S : ByteArray), v11 = .int .i64 k ∧ k ≤ a.length ∧ v3 = .string S ∧ bl S = encs (a.take k) ∧ Below w.heap.size w wr) (fun _ v11 _ => n - (RowKit.intOf v11).toNat)
  case atStart => exact ⟨0, _, rfl, Nat.zero_le _, rfl, by simp [encs]; rfl, hB⟩
  case round =>
    clear hB q0 BP
    obtain ⟨k, S, rfl, hk, rfl, hS, hB⟩ := hrel
    have HS := Lib.hid hS
    have hSz : S.size ≤ 4000 := by
      rw [size_bl, hS]
      have := encs_len (a.take k)
      have : (a.take k).length ≤ 1000 := by simp; omega
      omega
    clear hS
    by_cases hkn : k < n
    · have hkl : k < L.length := by have := HL.out; omega
      have hPr : PatR psL 4 wr w.heap.size A n L := HP.out.below hB
      obtain ⟨b, off, hA, hb, d0, d1, d2, d3⟩ := psL_at hPr hkl
      have hmem : L[k] ∈ L := List.getElem_mem hkl
      have hsm := hPr.small _ hmem
      have hrd := (hPr.hang _ hmem).more hB.size
      have hat := ahead_at hkl HAH.out hk
      obtain ⟨e, he⟩ : ∃ e, L[k] = e := ⟨_, rfl⟩
      rw [he] at d0 d1 d2 d3 hat hsm hrd
      clear he hmem hPr
      obtain ⟨b3, hb3⟩ : ∃ x, (e.p.kind == 3) = x := ⟨_, rfl⟩
      obtain ⟨b2, hb2⟩ : ∃ x, (e.p.kind == 2) = x := ⟨_, rfl⟩
      obtain ⟨b1, hb1⟩ : ∃ x, (e.p.kind == 1) = x := ⟨_, rfl⟩
      have hpl : psL e = [.bool b3, .bool b2, .bool b1, .slice e.A e.n e.c] := by unfold psL; rw [hb3, hb2, hb1]
      rw [hb3] at d0
      rw [hb2] at d1
      rw [hb1] at d2
      have hB2 := (hB.alloc hB.size (.cells #[.bool b3, .bool b2, .bool b1, .slice e.A e.n e.c] 76)).alloc (Nat.le_trans hB.size (by simp)) (.cells #[.bool b3, .bool b2, .bool b1, .slice e.A e.n e.c] 76)
      have hPn : PatR psL 4 ((wr.alloc (.cells #[.bool b3, .bool b2, .bool b1, .slice e.A e.n e.c] 76)).alloc (.cells #[.bool b3, .bool b2, .bool b1, .slice e.A e.n e.c] 76)) ((wr.alloc (.cells #[.bool b3, .bool b2, .bool b1, .slice e.A e.n e.c] 76)).alloc (.cells #[.bool b3, .bool b2, .bool b1, .slice e.A e.n e.c] 76)).heap.size (some ⟨wr.heap.size + 1, 0, none⟩) 1 [e] := by
        refine ⟨?_, ?_, ?_⟩
        · have h := reads_new (wr.alloc (.cells #[.bool b3, .bool b2, .bool b1, .slice e.A e.n e.c] 76)) 76 4 #[.bool b3, .bool b2, .bool b1, .slice e.A e.n e.c] (psL e) hpl.symm rfl
          rw [World.size_alloc] at h
          simpa using h
        · intro x hx
          rw [List.mem_singleton.1 hx]
          exact ((hrd.alloc (Nat.le_refl _) _).alloc (by simp) _).more (by simp; omega)
        · intro x hx
          rw [List.mem_singleton.1 hx]
          exact hsm
      have HC := Lib.hid (fun c' t' => glob_Plain (some ⟨wr.heap.size + 1, 0, none⟩) 1 c' t' [e] _ hPn (by omega))
      have HAT := Lib.hid hat
      have hBw := hB.size
      rw [hA]
      clear hA hPn hpl hb3 hb2 hb1 hat hrd hsm
      cases hpp : plainP e.p with
      | some r =>
        obtain ⟨hka, har⟩ := HAT.out.1 r hpp
        have h1 := one_plain hpp
        have HC2 := Lib.hid HC.out
        simp only [List.map_cons, List.map_nil] at HC2
        rw [h1.1, h1.2, if_pos rfl] at HC2
        have HAR := Lib.hid har
        clear hpp h1 HC har
        go_wp2_with fail
        refine (HC2.out _ _).mono ?_
        clear HC2 d0 d1 d2 d3
        rintro x w5 ⟨rfl, b5⟩
        replace hB2 := hB2.trans (b5.mono hB2.size)
        obtain ⟨E, hE⟩ : ∃ E, strE [r] = E := ⟨_, rfl⟩
        have hbE : bl E = enc r := by rw [← hE, bl_strE, encs_cons, encs_nil, List.append_nil]
        rw [hE]
        have hEs : E.size ≤ 4 := by rw [size_bl, hbE]; exact enc_length r
        have HBE := Lib.hid hbE
        clear b5 hE hbE
        go_wp2_with fail
        go_roundw
        case rel => exact ⟨k + 1, S ++ E, by go_num, by omega, rfl, by rw [bl_append, HS.out, HBE.out, List.take_succ_eq_append_getElem hka, encs_append, HAR.out, encs_cons, encs_nil, List.append_nil], hB2⟩
        case measure => simp [RowKit.intOf]; omega
      | none =>
        have hak := HAT.out.2 hpp
        have h1 := one_not hpp
        have HC2 := Lib.hid HC.out
        simp only [List.map_cons, List.map_nil] at HC2
        rw [h1] at HC2
        have HR : Hid (S = strE a) := Lib.hid (strE_of (by rw [HS.out, List.take_of_length_le (by omega)]))
        clear hpp h1 HC hak
        go_wp2_with fail
        refine (HC2.out _ _).mono ?_
        clear HC2 d0 d1 d2 d3
        rintro x w5 ⟨rfl, b5⟩
        replace hB2 := hB2.trans (b5.mono hB2.size)
        clear b5
        go_wp2_with fail
        go_ret
        exact ⟨by rw [← HR.out]; rfl, hB2⟩
    · have hkn2 : k = n := by omega
      have HR : Hid (S = strE a) := Lib.hid (strE_of (by rw [HS.out, List.take_of_length_le (by omega)]))
      go_wp2_with fail
      go_ret
      exact ⟨by rw [← HR.out]; rfl, hB⟩
end Go.Proofs.YtedegdojbhegdaaDoor
