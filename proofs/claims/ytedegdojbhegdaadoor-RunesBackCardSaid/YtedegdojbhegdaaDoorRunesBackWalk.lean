/- The walk of the law RunesBack: it returns true, and nothing that was there ahead of the call has turned. Condition: the tables of unicode/utf8 lie as they are laid. -/
import Derived.Test.YtedegdojbhegdaaDoorRnF
import Derived.Test.YtedegdojbhegdaaDoorRnZ
namespace Go.Proofs.YtedegdojbhegdaaDoor
open Go.RowKit Go.Sort Go.Lib

set_option maxRecDepth 100000 in
set_option maxHeartbeats 1000000 in
theorem runes_back_walk (w : World) (hT : Tabs w) (s : ByteArray) (hs : s.size ≤ maxLen) : Calls Tryd.prog 4 #[.string s] w fun e w' => e = .returned (.bool true) ∧ Below w.heap.size w w' := by
  unfold maxLen at hs
  by_cases hbig : 2000 < s.size
  · have hd : decide (2000 < (s.size : Int)) = true := by simp; omega
    clear hT
    go_enter Tryd.func4, Tryd.ntmps4
    go_wp2_with fail
    go_ret
    exact ⟨rfl, Below.refl _ _⟩
  have hd : decide (2000 < (s.size : Int)) = false := by simp; omega
  have HT := Lib.hid hT
  clear hT
  have hql := quoteP_len_le s
  have HQ := Lib.hid (runes_Quote s (by omega) w HT.out)
  have HU9 := Lib.hid (unqV_quote ⟨(quoteP s).toArray⟩ s rfl)
  have HWB := Lib.hid (words_back s)
  obtain ⟨Q, hQ⟩ : ∃ Q, quoteP s = Q := ⟨_, rfl⟩
  rw [hQ] at HQ HU9 hql HWB
  clear hQ
  go_enter Tryd.func4, Tryd.ntmps4
  go_wp2_with fail
  refine HQ.out.mono ?_
  clear HQ
  rintro e w1 ⟨rfl, hB⟩
  have hqs : (⟨Q.toArray⟩ : ByteArray).size = Q.length := by rw [← bl_length]; rfl
  have HU := Lib.hid (runes_Unquote ⟨Q.toArray⟩ (by omega) w1 (HT.out.below hB))
  rw [HU9.out] at HU
  have HQS := Lib.hid hqs
  clear hqs
  go_wp2_with fail
  refine HU.out.mono ?_
  clear HU HU9
  rintro e w2 ⟨rfl, b2⟩
  replace hB := hB.trans (b2.mono hB.size)
  clear b2
  obtain ⟨line, hline⟩ : ∃ l : ByteArray, (((⟨#[32, 32]⟩ ++ ⟨Q.toArray⟩) ++ ⟨#[32]⟩) ++ ⟨Q.toArray⟩) ++ ⟨#[32, 120]⟩ = l := ⟨_, rfl⟩
  have hbl : bl line = [32, 32] ++ Q ++ [32] ++ Q ++ [32, 120] := by
    rw [← hline]
    simp only [bl_append]
    rfl
  have hls : line.size ≤ 20000 := by
    rw [← bl_length, hbl]
    simp
    omega
  have HW := Lib.hid (runes_Words line (by omega) w2)
  rw [hbl, HWB.out] at HW
  have HLN := Lib.hid hline
  clear hbl hline HWB
  go_wp2_with fail
  rw [HLN.out]
  refine HW.out.mono ?_
  clear HW
  rintro e w3 ⟨v3, rfl, o3, b3⟩
  replace hB := hB.trans (b3.mono hB.size)
  clear b3
  obtain ⟨A, c, rfl, _, _, r3⟩ := o3.reads
  obtain ⟨b, off, rfl, hb, hcell⟩ := r3.form (by simp)
  have c0 : w3.cell? ⟨b, off, none⟩ = some (.string ⟨Q.toArray⟩) := hcell 0 _ rfl
  have c1 : w3.cell? ⟨b, off + 1, none⟩ = some (.string ⟨Q.toArray⟩) := hcell 1 _ rfl
  have c2 : w3.cell? ⟨b, off + 2, none⟩ = some (.string ⟨#[120]⟩) := hcell 2 _ rfl
  clear hcell r3 o3
  simp only [List.length_cons, List.length_nil, Nat.zero_add, Nat.reduceAdd]
  go_wp2_with fail
  refine (alive01 w3 (HT.out.below hB)).mono ?_
  rintro e w7 ⟨rfl, b7⟩
  replace hB := hB.trans (b7.mono hB.size)
  go_wp2_with fail
  go_ret
  exact ⟨rfl, hB⟩
end Go.Proofs.YtedegdojbhegdaaDoor
