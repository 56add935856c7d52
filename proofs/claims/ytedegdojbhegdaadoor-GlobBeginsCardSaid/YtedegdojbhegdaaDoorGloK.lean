/- Contract of the reference's Ahead. Condition: the tables of unicode/utf8 lie as they are laid. -/
import Derived.Test.YtedegdojbhegdaaDoorGloH
import Derived.Test.YtedegdojbhegdaaDoorGloJ
namespace Go.Proofs.YtedegdojbhegdaaDoor
open Go.RowKit Go.Sort

theorem rsL_at {w : World} {B n : Nat} {A : Option Addr} {L : List PS} (h : PatR rsL 2 w B A n L) {k : Nat} (hk : k < L.length) : ∃ b off, A = some ⟨b, off, none⟩ ∧ b < B ∧ w.cell? ⟨b, off + k * 2, none⟩ = some (.int .i64 (L[k].p.kind : Int)) ∧ w.cell? ⟨b, off + k * 2 + 1, none⟩ = some (.slice L[k].A L[k].n L[k].c) := by
  have hl := h.reads.1
  rw [flat_len rsL 2 rsL_len] at hl
  obtain ⟨b, off, hA, hb, hc⟩ := h.reads.formk (by omega) (by decide)
  have g := fun j hj u hu => hc (k * 2 + j) u ((flat_get rsL 2 rsL_len L k j hk hj).trans hu)
  refine ⟨b, off, hA, hb, ?_, ?_⟩
  · have := g 0 (by decide) _ rfl
    simpa using this
  · have := g 1 (by decide) _ rfl
    rw [← Nat.add_assoc] at this
    exact this
theorem PatR.rn_eq {w : World} {B n : Nat} {A : Option Addr} {L : List PS} (h : PatR rsL 2 w B A n L) : L.length = n := by
  have hl := h.reads.1
  rw [flat_len rsL 2 rsL_len] at hl
  omega

/-- The runes that a pattern begins with, and whether it has no others. -/
def aheadV (s : ByteArray) : Value := match patP s with
  | some P => .tuple #[.string (strE (aheadP P)), .bool (allP P)]
  | none => .tuple #[.string ⟨#[]⟩, .bool true]
set_option maxRecDepth 100000 in
set_option maxHeartbeats 1000000 in
theorem ref38_Ahead (s : ByteArray) (hs : s.size ≤ 9223372036854775807) (w : World) (hT : Tabs w) : Calls Tryd.prog 22 #[.string s] w fun x w' => x = .returned (aheadV s) ∧ Below w.heap.size w w' := by
  have HC := Lib.hid (ref38_parts s hs w hT)
  clear hT
  go_enter Tryd.func22, Tryd.ntmps22
  obtain ⟨xx, hxx⟩ : ∃ xx, aheadV s = xx := ⟨_, rfl⟩
  have HXX := Lib.hid hxx
  rw [hxx]
  clear hxx
  go_wp2_with fail
  refine HC.out.mono ?_
  clear HC
  rintro y w2 ⟨hB0, ⟨hp, rfl⟩ | ⟨A, n, c, L, hp, rfl, hn, hnc, hpr⟩⟩
  · have H : Hid (xx = .tuple #[.string ⟨#[]⟩, .bool true]) := Lib.hid (by rw [← HXX.out, aheadV, hp])
    clear hp
    go_wp2_with fail
    go_loop [6, 7] (fun v6 v7 => v6 = .string ⟨#[]⟩ ∧ v7 = .int .i64 0) (fun _ _ => 0)
    case atStart => exact ⟨rfl, rfl⟩
    case round =>
      obtain ⟨rfl, rfl⟩ := hrel
      go_wp2_with fail
      go_ret2
      exact ⟨by rw [H.out]; rfl, hB0⟩
  have hn100 : n ≤ 100 := by
    have hml : (L.map PS.p).length = n := by rw [List.length_map, hn]
    unfold patP at hp
    split at hp
    · cases hp
    · have := pt_len _ _ (Nat.le_refl _) _ hp
      have := rest_length s 0
      omega
  obtain ⟨a, ha⟩ : ∃ a, aheadP (L.map PS.p) = a := ⟨_, rfl⟩
  have hall : allP (L.map PS.p) = decide (a.length = n) := by rw [ahead_all, ha, List.length_map, hn]
  have hale : a.length ≤ n := by rw [← ha, hn]; have := ahead_len (L.map PS.p); simpa using this
  have HX : Hid (xx = .tuple #[.string (strE a), .bool (decide (a.length = n))]) := Lib.hid (by rw [← HXX.out, aheadV, hp]; simp only; rw [ha, hall])
  have HAH := Lib.hid ha
  have HL := Lib.hid hn
  have HPR := Lib.hid hpr
  clear hp hall ha hn hpr
  go_wp2_with fail
  go_loopw [6, 7] (fun v6 v7 wr => ∃ (k : Nat) (S : ByteArray), v7 = .int .i64 k ∧ k ≤ a.length ∧ v6 = .string S ∧ bl S = encs (a.take k) ∧ Below w2.heap.size w2 wr) (fun _ v7 _ => n - (RowKit.intOf v7).toNat)
  case atStart => exact ⟨0, _, rfl, Nat.zero_le _, rfl, by simp [encs]; rfl, Below.refl _ _⟩
  case round =>
    obtain ⟨k, S, rfl, hk, rfl, hS, hB⟩ := hrel
    have HS := Lib.hid hS
    have hSz : S.size ≤ 400 := by
      rw [size_bl, hS]
      have := encs_len (a.take k)
      have : (a.take k).length ≤ 100 := by simp; omega
      omega
    clear hS
    have hBB := hB0.trans (hB.mono hB0.size)
    by_cases hkn : k < n
    · have hkl : k < L.length := by have := HL.out; omega
      have hPr : PatR rsL 2 wr w2.heap.size A n L := HPR.out.below hB
      obtain ⟨b, off, hA, hb, d0, d1⟩ := rsL_at hPr hkl
      have hmem : L[k] ∈ L := List.getElem_mem hkl
      have hsm := hPr.small _ hmem
      have hrd0 := hPr.hang _ hmem
      have hat := ahead_at hkl HAH.out hk
      obtain ⟨e, he⟩ : ∃ e, L[k] = e := ⟨_, rfl⟩
      rw [he] at d0 d1 hat hsm hrd0
      have hpc := plain_cases e hrd0 hsm.2.1
      clear he hmem hPr
      have HRP := Lib.hid (ref38_plain e wr (hrd0.more hB.size) (by have := hsm.1; omega))
      unfold rsC at HRP
      obtain ⟨kI, hkI⟩ : ∃ k : Int, (e.p.kind : Int) = k := ⟨_, rfl⟩
      rw [hkI] at d0 HRP
      have HAT := Lib.hid hat
      have HPC := Lib.hid hpc
      rw [hA]
      clear hA hat hrd0 hsm hkI hpc
      cases hpp : plainP e.p with
      | some r =>
        obtain ⟨hka, har⟩ := HAT.out.1 r hpp
        rw [hpp] at HRP
        have HAR := Lib.hid har
        rcases HPC.out with ⟨b2, o2, r', hpl, hk0, hn1, hA2, hb2, c0, c1⟩ | ⟨hpl, _⟩
        · rw [hpp] at hpl
          injection hpl with hrr
          subst hrr
          have HA2 := Lib.hid hA2
          have HN1 := Lib.hid hn1
          clear hpp har hk0 hA2 hn1
          go_wp2_with fail
          refine HRP.out.mono ?_
          rintro x w5 ⟨rfl, b5⟩
          have d1' := hb_cell b5 d1
          have c0' := hb_cell b5 c0
          rw [HA2.out, HN1.out] at d1'
          replace hB := hB.trans (b5.mono hB.size)
          obtain ⟨E, hE⟩ : ∃ E, Utf8.encode (r : Int) = E := ⟨_, rfl⟩
          have hbE : bl E = enc r := by rw [← hE]; rfl
          have hEs : E.size ≤ 4 := by rw [size_bl, hbE]; exact enc_length r
          have HBE := Lib.hid hbE
          clear b5 hbE d0 d1 c0 c1 HRP
          simp only [Option.isSome_some]
          go_wp2_with fail
          go_roundw
          case rel => exact ⟨k + 1, S ++ E, by go_num, by omega, rfl, by rw [bl_append, HS.out, HBE.out, List.take_succ_eq_append_getElem hka, encs_append, HAR.out, encs_cons, encs_nil, List.append_nil], hB⟩
          case measure => simp [RowKit.intOf]; omega
        · rw [hpp] at hpl
          cases hpl
      | none =>
        have hak := HAT.out.2 hpp
        rw [hpp] at HRP
        have HR : Hid (S = strE a) := Lib.hid (strE_of (by rw [HS.out, List.take_of_length_le (by omega)]))
        have hne : a.length ≠ n := by omega
        clear hpp hak
        go_wp2_with fail
        refine HRP.out.mono ?_
        rintro x w5 ⟨rfl, b5⟩
        simp only [Option.isSome_none]
        have hB5 := hBB.trans (b5.mono hBB.size)
        clear b5 HRP
        go_wp2_with fail
        go_ret2
        exact ⟨by rw [HX.out, HR.out]; simp [hne], hB5⟩
    · have hkn2 : k = n := by omega
      have hal : a.length = n := by omega
      have HR : Hid (S = strE a) := Lib.hid (strE_of (by rw [HS.out, List.take_of_length_le (by omega)]))
      go_wp2_with fail
      go_ret2
      exact ⟨by rw [HX.out, HR.out]; simp [hal], hBB⟩
end Go.Proofs.YtedegdojbhegdaaDoor
