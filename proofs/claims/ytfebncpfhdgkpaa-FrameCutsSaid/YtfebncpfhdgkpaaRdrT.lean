/- Contracts of wire.Reader's Text. -/
import Derived.Test.YtfebncpfhdgkpaaRdrN
namespace Go.Proofs.Ytfebncpfhdgkpaa
open Go.RowKit Go.Sort

theorem RdTo.of_grown {w w1 w2 : World} {g n c k : Nat} {A : Option Addr} {L : List UInt8} {v : Value} {why : Int} {e : Ending} (h1 : w.grownBy w1 (some g)) (h2 : RdTo w1 g A n c L v k why e w2) : RdTo w g A n c L v k why e w2 :=
  ⟨h2.1, h2.2.1, grown_trans' h1 h2.2.2⟩

/-- string(r.b[lo:hi]): a part of the bytes that are read, as a text. -/
theorem text_of_part (w : World) (b o n c lo v : Nat) (li hi : Int) (eli : li = (lo : Int)) (ehi : hi = ((lo + v : Nat) : Int)) (h1 : lo + v ≤ n) (h2 : n ≤ c) (L : List UInt8) (hl : L.length = n)
    (hc : ∀ j u, (L.map vb)[j]? = some u → w.cell? ⟨b, o + j, none⟩ = some u) :
    ∀ j, (convert 46 9 (.slice (if c = li.toNat then some ⟨b, o, none⟩ else some ⟨b, o + li.toNat, none⟩) (hi.toNat - li.toNat) (c - li.toNat))).run Try.prog (w.drewN j) = .ok (.string ⟨((L.drop lo).take v).toArray⟩) (w.drewN j) := by
  subst eli ehi
  have e1 : ((lo + v : Nat) : Int).toNat = lo + v := by omega
  have e2 : ((lo : Nat) : Int).toNat = lo := by omega
  rw [e1, e2, Nat.add_sub_cancel_left]
  intro j
  have hlen : ((L.drop lo).take v).length = v := by rw [List.length_take, List.length_drop]; omega
  by_cases h0 : c = lo
  · have hv : v = 0 := by omega
    subst hv
    rw [if_pos h0]
    exact run_convert_bytes_back (P := Try.prog) (w.drewN j) 46 9 5 ⟨b, o, none⟩ (c - lo) [] Try.underlying46 Try.underlying5 Try.underlying9 (fun j hj => by simp at hj)
  · rw [if_neg h0]
    have h := run_convert_bytes_back (P := Try.prog) (w.drewN j) 46 9 5 ⟨b, o + lo, none⟩ (c - lo) ((L.drop lo).take v) Try.underlying46 Try.underlying5 Try.underlying9 (fun i hi => by
      rw [add_lit]
      show w.cell? _ = _
      have e := hc (lo + i) (.int .u8 ((((L.drop lo).take v)[i]).toNat : Int)) (by
        rw [List.getElem_take, List.getElem_drop, List.getElem?_map, List.getElem?_eq_getElem]
        rfl)
      rw [Nat.add_assoc]
      exact e)
    rw [hlen] at h
    exact h
theorem rNum_pos (l : List UInt8) (why : Int) (h : (rNum l why).2.2 = 0) : 0 < l.length := by
  cases l with
  | nil =>
    unfold rNum rnum rnumF at h
    split at h
    · simp at h
    · simp at h; contradiction
  | cons a r => simp
set_option maxRecDepth 100000 in
set_option maxHeartbeats 2000000 in
theorem reader_Text (w : World) (g : Nat) (A : Option Addr) (n c : Nat) (L : List UInt8) (k : Nat) (why most : Int) (h : Rd w g A n c L k why) :
    Calls Try.prog 84 #[.pointer (some ⟨g, 0, none⟩), .int .i64 most] w (RdTo w g A n c L (.string ⟨(rText (L.drop k) most why).1.toArray⟩) (k + (rText (L.drop k) most why).2.1) (rText (L.drop k) most why).2.2) := by
  obtain ⟨f1, f2, f3⟩ := rNum_facts (L.drop k) why
  have hlen := h.len
  have hkn := h.kn
  have hnm := h.nm
  have hnc := h.nc
  have hc := h.blk.cell
  have hN := reader_Num w g A n c L k why h
  unfold rText
  obtain ⟨v, m, e0, hq⟩ : ∃ v m e0, rNum (L.drop k) why = (v, m, e0) := ⟨_, _, _, rfl⟩
  rw [hq] at hN f1 f2 f3 ⊢
  simp only [] at hN f1 f2 f3 ⊢
  rw [List.length_drop, hlen] at f2
  have hq0 := hq
  clear hq
  by_cases he : e0 = 0
  · subst he
    simp only [ne_eq, not_true_eq_false, if_false, List.length_drop, hlen]
    clear f3
    by_cases hm : most < v
    · rw [if_pos hm]
      go_enter Try.func84, Try.ntmps84
      go_wp2_with fail
      refine hN.mono ?_
      rintro e w1 ⟨rfl, R1, g1⟩
      have hc1 := R1.blk.cell
      clear hc
      have hmd : decide (most < (v : Int)) = true := by simp; omega
      go_wp2_with fail
      refine (reader_Fail _ g _ n c L _ 0 31 R1).mono ?_
      rintro e w2 ⟨rfl, rfl⟩
      rw [if_pos rfl]
      have hf2 := (R1.fail 31).blk.frozen 1
      have hc2 := (R1.fail 31).blk.cell
      go_wp2
      go_ret
      exact ⟨rfl, (R1.fail 31).at_ k hkn, grown_trans' (grown_trans' g1 (only_set _ _ _ _)) (only_set _ _ _ _)⟩
    · rw [if_neg hm]
      have hmd : decide (most < (v : Int)) = false := by simp; omega
      by_cases hl : n - k - m < v
      · rw [if_pos hl]
        go_enter Try.func84, Try.ntmps84
        go_wp2_with fail
        refine hN.mono ?_
        rintro e w1 ⟨rfl, R1, g1⟩
        have hc1 := R1.blk.cell
        clear hc
        go_wp2_with fail
        refine (reader_Left _ g _ n c L _ 0 R1).mono ?_
        rintro e w2 ⟨rfl, dm, rfl⟩
        have hld : decide (((n - (k + m) : Nat) : Int) < (v : Int)) = true := by simp; omega
        have hc2 := (R1.drewN dm).blk.cell
        go_wp2_with fail
        refine (reader_Fail _ g _ n c L _ 0 30 (R1.drewN dm)).mono ?_
        rintro e w2 ⟨rfl, rfl⟩
        rw [if_pos rfl]
        have hf2 := ((R1.drewN dm).fail 30).blk.frozen 1
        have hc2 := ((R1.drewN dm).fail 30).blk.cell
        go_wp2
        go_ret
        exact ⟨rfl, ((R1.drewN dm).fail 30).at_ k hkn, grown_trans' (grown_trans' (grown_trans' g1 (grown_drewN _ _ _)) (only_set _ _ _ _)) (only_set _ _ _ _)⟩
      · rw [if_neg hl]
        have hn0 : 0 < n := by
          have h0 := rNum_pos (L.drop k) why (by rw [hq0])
          rw [List.length_drop, hlen] at h0
          omega
        obtain ⟨b, o, rfl, hb, _⟩ := h.rds.form hn0
        have hld : decide (((n - (k + m) : Nat) : Int) < (v : Int)) = false := by simp; omega
        go_enter Try.func84, Try.ntmps84
        go_wp2_with fail
        refine hN.mono ?_
        rintro e w1 ⟨rfl, R1, g1⟩
        have hc1 := R1.blk.cell
        clear hc
        go_wp2_with fail
        refine (reader_Left _ g _ n c L _ 0 R1).mono ?_
        rintro e w2 ⟨rfl, dm, rfl⟩
        have hc2 := (R1.drewN dm).blk.cell
        have hf2 := (R1.drewN dm).blk.frozen 1
        have R2 := (R1.drewN dm).at_ (k + m + v) (by omega)
        have hc3 : ∀ j i, (((w1.drewN dm).setCell ⟨g, 1, none⟩ (.int .i64 ((k : Int) + m + v))).drewN j).cell? ⟨g, i, none⟩ = (#[.slice (some ⟨b, o, none⟩) n c, .int .i64 ((k : Int) + m + v), .int .i64 0] : Array Value)[i]? := fun j i => by simpa using (R2.drewN j).blk.cell i
        have hw : IntKind.i64.wrap ((k : Int) + m) = (k : Int) + m := by rw [IntKind.wrap_i64]; omega
        have HR2 := Lib.hid R2
        have s1 : 0 ≤ (k : Int) + m + v := by omega
        have s2 : (k : Int) + m + v ≤ c := by omega
        have s3 : 0 ≤ (k : Int) + m := by omega
        have s4 : (k : Int) + m ≤ max ((k : Int) + m + v) 0 := by omega
        obtain ⟨hlR, hcR⟩ : L.length = n ∧ ∀ j u, (L.map vb)[j]? = some u → ((w1.drewN dm).setCell ⟨g, 1, none⟩ (.int .i64 ((k : Int) + m + v))).cell? ⟨b, o + j, none⟩ = some u := ⟨hlen, by
          obtain ⟨b', o', hAe, _, hcell⟩ := R2.rds.form hn0
          injection hAe with hAe
          injection hAe with e1 e2
          subst e1 e2
          simpa using hcell⟩
        have hcv := text_of_part _ b o n c (k + m) v ((k : Int) + m) ((k : Int) + m + v) (by omega) (by omega) (by omega) hnc L hlR hcR
        have HG := Lib.hid (grown_trans' (grown_trans' g1 (grown_drewN w1 dm _)) (only_set (w1.drewN dm) g 1 (.int .i64 ((k + m + v : Nat) : Int))))
        clear hN hq0 R1 R2 g1 h
        go_wp2
        go_quiet (fail)
        go_wp2
        all_goals
          go_ret
          refine ⟨rfl, ?_, ?_⟩
          · have e : k + (m + v) = k + m + v := by omega
            rw [e]
            have hh := HR2.out.drewN nq
            first
            | simpa using hh
            | (rw [← (by assumption : c = ((k : Int) + m).toNat)]; simpa using hh)
          · simpa using grown_trans' HG.out (grown_drewN _ nq _)
  · have hed : (e0 == 0) = false := by simp [he]
    obtain ⟨rfl, rfl⟩ := f3 he
    rw [if_pos he]
    go_enter Try.func84, Try.ntmps84
    go_wp2_with fail
    refine hN.mono ?_
    rintro e w1 ⟨rfl, R1, g1⟩
    have hc1 := R1.blk.cell
    have hf1 := R1.blk.frozen 1
    clear hc he
    go_wp2
    go_ret
    exact ⟨rfl, R1.at_ k hkn, grown_trans' g1 (only_set _ _ _ _)⟩
end Go.Proofs.Ytfebncpfhdgkpaa
