/- Contracts of wire.Reader's Count and End. -/
import Derived.Test.YtedegdojbhegdaaRdrN
namespace Go.Proofs.Ytedegdojbhegdaa
open Go.RowKit Go.Sort

set_option maxRecDepth 100000 in
set_option maxHeartbeats 1000000 in
theorem reader_Count (w : World) (g : Nat) (A : Option Addr) (n c : Nat) (L : List UInt8) (k : Nat) (why most : Int) (h : Rd w g A n c L k why) :
    Calls Try.prog 40 #[.pointer (some ⟨g, 0, none⟩), .int .i64 most] w (RdTo w g A n c L (.int .i64 (rCount (L.drop k) most why).1) (k + (rCount (L.drop k) most why).2.1) (rCount (L.drop k) most why).2.2) := by
  obtain ⟨f1, f2, f3⟩ := rNum_facts (L.drop k) why
  have hlen := h.len
  have hkn := h.kn
  have hc := h.blk.cell
  have hN := reader_Num w g A n c L k why h
  unfold rCount
  obtain ⟨v, m, e0, hq⟩ : ∃ v m e0, rNum (L.drop k) why = (v, m, e0) := ⟨_, _, _, rfl⟩
  rw [hq] at hN f1 f2 f3 ⊢
  simp only [] at hN f1 f2 f3 ⊢
  clear hq
  by_cases he : e0 = 0
  · subst he
    clear f3
    by_cases hm : most < v
    · rw [if_pos ⟨rfl, hm⟩]
      have hmd : decide (most < (v : Int)) = true := by simp; omega
      go_enter Try.func40, Try.ntmps40
      go_wp2_with fail
      refine hN.mono ?_
      rintro e w1 ⟨rfl, R1, g1⟩
      have hc1 := R1.blk.cell
      clear hc
      go_wp2_with fail
      refine (reader_Fail _ g _ n c L _ 0 31 R1).mono ?_
      rintro e w2 ⟨rfl, rfl⟩
      rw [if_pos rfl]
      have hf2 := (R1.fail 31).blk.frozen 1
      have hc2 := (R1.fail 31).blk.cell
      clear hc1
      go_wp2_with fail
      go_ret
      exact ⟨rfl, (R1.fail 31).at_ k hkn, grown_trans' (grown_trans' g1 (only_set _ _ _ _)) (only_set _ _ _ _)⟩
    · rw [if_neg (fun hx => hm hx.2)]
      have hmd : decide (most < (v : Int)) = false := by simp; omega
      go_enter Try.func40, Try.ntmps40
      go_wp2_with fail
      refine hN.mono ?_
      rintro e w1 ⟨rfl, R1, g1⟩
      have hc1 := R1.blk.cell
      clear hc
      go_wp2_with fail
      go_ret
      exact ⟨rfl, R1, g1⟩
  · have hed : (e0 == 0) = false := by simp [he]
    have hed' : (e0 != 0) = true := by simp [he]
    obtain ⟨rfl, rfl⟩ := f3 he
    rw [if_neg (fun hx => he hx.1)]
    go_enter Try.func40, Try.ntmps40
    go_wp2_with fail
    refine hN.mono ?_
    rintro e w1 ⟨rfl, R1, g1⟩
    have hc1 := R1.blk.cell
    have hf1 := R1.blk.frozen 1
    clear hc he
    go_wp2_with fail
    go_ret
    exact ⟨rfl, R1.at_ k hkn, grown_trans' g1 (only_set _ _ _ _)⟩

/-- The fault at the end of a reading. -/
def rEnd (left : Nat) (why : Int) : Int := if 0 < left ∧ why = 0 then 31 else why
set_option maxRecDepth 100000 in
theorem reader_End (w : World) (g : Nat) (A : Option Addr) (n c : Nat) (L : List UInt8) (k : Nat) (why : Int) (h : Rd w g A n c L k why) :
    Calls Try.prog 43 #[.pointer (some ⟨g, 0, none⟩)] w (RdTo w g A n c L (.int .i64 (rEnd (n - k) why)) k (rEnd (n - k) why)) := by
  have hLf := Lib.hid (reader_Left w g A n c L k why h)
  have hH := Lib.hid h
  unfold rEnd
  have hcase : (0 < n - k ∧ decide (0 < n - k) = true) ∨ (¬ 0 < n - k ∧ decide (0 < n - k) = false) := by
    by_cases h0 : 0 < n - k
    · exact .inl ⟨h0, by simpa using h0⟩
    · exact .inr ⟨h0, by simpa using h0⟩
  generalize n - k = left at *
  clear h
  rcases hcase with ⟨h0, hd⟩ | ⟨h0, hd⟩
  · by_cases hw : why = 0
    · subst hw
      rw [if_pos ⟨h0, rfl⟩]
      clear h0
      go_enter Try.func43, Try.ntmps43
      go_wp2_with fail
      refine hLf.out.mono ?_
      rintro e w1 ⟨rfl, dm, rfl⟩
      go_wp2_with fail
      refine (reader_Fail _ g _ n c L _ 0 31 (hH.out.drewN dm)).mono ?_
      rintro e w2 ⟨rfl, rfl⟩
      rw [if_pos rfl]
      have hc2 := ((hH.out.drewN dm).fail 31).blk.cell
      go_wp2_with fail
      go_ret
      exact ⟨rfl, (hH.out.drewN dm).fail 31, grown_trans' (grown_drewN _ _ _) (only_set _ _ _ _)⟩
    · rw [if_neg (fun hx => hw hx.2)]
      clear h0
      go_enter Try.func43, Try.ntmps43
      go_wp2_with fail
      refine hLf.out.mono ?_
      rintro e w1 ⟨rfl, dm, rfl⟩
      go_wp2_with fail
      refine (reader_Fail _ g _ n c L _ why 31 (hH.out.drewN dm)).mono ?_
      rintro e w2 ⟨rfl, rfl⟩
      rw [if_neg hw]
      have hc2 := (hH.out.drewN dm).blk.cell
      clear hw
      go_wp2_with fail
      go_ret
      exact ⟨rfl, hH.out.drewN dm, grown_drewN _ _ _⟩
  · rw [if_neg (fun hx => h0 hx.1)]
    clear h0
    go_enter Try.func43, Try.ntmps43
    go_wp2_with fail
    refine hLf.out.mono ?_
    rintro e w1 ⟨rfl, dm, rfl⟩
    have hc2 := (hH.out.drewN dm).blk.cell
    go_wp2_with fail
    go_ret
    exact ⟨rfl, hH.out.drewN dm, grown_drewN _ _ _⟩
end Go.Proofs.Ytedegdojbhegdaa
