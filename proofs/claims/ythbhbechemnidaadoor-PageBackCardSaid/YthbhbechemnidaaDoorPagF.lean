/- Contract of page.one: the mutation that comes next, behind another one. A drawn region walked in one order (XMixK), the rest of the walk sealed: for regions whose guards are off. Contract of page.Get: the page that comes next. The chapter's example on pages. -/
import Derived.Test.YthbhbechemnidaaDoorPagA
import Derived.Test.YthbhbechemnidaaDoorMutU
import Derived.Test.YthbhbechemnidaaDoorMixK
import Derived.Test.YthbhbechemnidaaDoorPagD
import Derived.Test.YthbhbechemnidaaDoorMutM
namespace Go.Proofs.YthbhbechemnidaaDoor
open Go.RowKit Go.Sort

theorem key_join (last : ByteArray) (m : Nat) (t : List UInt8) : last.extract 0 m ++ tx t = tx ((bs last).take m ++ t) := by
  have h : bs (last.extract 0 m ++ tx t) = (bs last).take m ++ t := by
    show bl _ = _
    unfold bl
    rw [ByteArray.data_append, Array.toList_append]
    show bl (last.extract 0 m) ++ t = _
    rw [bl_head]
    rfl
  rw [← h, tx_bs]

set_option maxRecDepth 100000 in
set_option maxHeartbeats 8000000 in
theorem page_one (w : World) (hT : Tabs w) (g : Nat) (A : Option Addr) (n c : Nat) (L : List UInt8) (k : Nat) (y : Int) (last : ByteArray) (hlv : allRunes last = true) (hls : last.size ≤ 24) (hR : Rd w g A n c L k y) :
    Calls Tryd.prog 97 #[.pointer (some ⟨g, 0, none⟩), .string last] w (MutTo w g A n c L (pOne last L k y).1 (pOne last L k y).2.1 (pOne last L k y).2.2) := by
  have hgl := hR.blk.lt
  have HRW := Lib.hid hR
  have HTW := Lib.hid hT
  have HLV := Lib.hid hlv
  have B0 := Blk.new w 35 #[.int .i64 0, .int .i64 0, .string ⟨#[]⟩, .string ⟨#[]⟩, .string ⟨#[]⟩, .int .i64 0, .int .i64 0, .int .i64 0, .int .i64 0, .slice none 0 0]
  have R := hR.alloc (.cells #[.int .i64 0, .int .i64 0, .string ⟨#[]⟩, .string ⟨#[]⟩, .string ⟨#[]⟩, .int .i64 0, .int .i64 0, .int .i64 0, .int .i64 0, .slice none 0 0] 35)
  have G : w.grownBy (w.alloc (.cells #[.int .i64 0, .int .i64 0, .string ⟨#[]⟩, .string ⟨#[]⟩, .string ⟨#[]⟩, .int .i64 0, .int .i64 0, .int .i64 0, .int .i64 0, .slice none 0 0] 35)) (some g) := ⟨rfl, rfl, rfl, by simp, fun k hk _ => Below.heap_alloc w _ k hk⟩
  clear hR hT hlv
  go_enter Tryd.func97, Tryd.ntmps97
  go_wp2_with fail
  change Calls _ _ _ (w.alloc (.cells #[.int .i64 0, .int .i64 0, .string ⟨#[]⟩, .string ⟨#[]⟩, .string ⟨#[]⟩, .int .i64 0, .int .i64 0, .int .i64 0, .int .i64 0, .slice none 0 0] 35)) _
  generalize w.alloc (.cells #[.int .i64 0, .int .i64 0, .string ⟨#[]⟩, .string ⟨#[]⟩, .string ⟨#[]⟩, .int .i64 0, .int .i64 0, .int .i64 0, .int .i64 0, .slice none 0 0] 35) = W0 at *
  obtain ⟨nn, k1, y1, e1⟩ : ∃ a k' y', pCnt (last.size : Int) L k y = (a, k', y') := ⟨_, _, _, rfl⟩
  have hnb := cnt_bounds (last.size : Int) (by omega) L k y
  have C1 := Lib.hid (rdCnt W0 g A n c L k y (last.size : Int) R)
  rw [e1] at C1 hnb
  obtain ⟨m, rfl⟩ : ∃ m : Nat, nn = m := ⟨nn.toNat, by have := hnb.1; simp only [] at this; omega⟩
  have hml : m ≤ last.size := by have := hnb.2; simp only [] at this; omega
  have HE1 := Lib.hid e1
  clear e1 R hnb
  refine C1.out.mono ?_
  clear C1
  rintro x w1 ⟨rfl, R, g9⟩
  replace B0 := B0.grown g9 (by intro e; injection e with e; omega)
  replace G := grown_trans' G g9
  clear g9
  obtain ⟨t, k2, y2, e2⟩ : ∃ a k' y', pTxt 24 L k1 y1 = (a, k', y') := ⟨_, _, _, rfl⟩
  have hkl := pTxt_len 24 (by decide) L k1 y1
  have C2 := Lib.hid (rdTxt w1 g A n c L k1 y1 24 R)
  rw [e2] at C2 hkl
  have htl : t.length ≤ 24 := by simp only [] at hkl; omega
  have HE2 := Lib.hid e2
  clear e2 R hkl
  go_wp2_with fail
  refine C2.out.mono ?_
  clear C2
  rintro x w2 ⟨rfl, R, g9⟩
  replace B0 := B0.grown g9 (by intro e; injection e with e; omega)
  replace G := grown_trans' G g9
  clear g9
  go_wp2_with fail
  refine (reader_Why _ g A n c L k2 y2 R).mono ?_
  rintro x w9 ⟨rfl, rfl⟩
  by_cases hy : y2 = 0
  case neg =>
    have hyn : (y2 != 0) = true := by simp [hy]
    have HX : Hid (pOne last L k y = (mutZ, k2, y2)) := Lib.hid (pOne_bad HE1.out HE2.out hy)
    clear hy
    have f0 := B0.frozen
    have c0 := B0.cell
    have zz := ((((((((((B0.set_ 0 (.int .i64 0)).set_ 1 (.int .i64 0)).set_ 2 (.string ⟨#[]⟩)).set_ 3 (.string ⟨#[]⟩)).set_ 4 (.string ⟨#[]⟩)).set_ 5 (.int .i64 0)).set_ 6 (.int .i64 0)).set_ 7 (.int .i64 0)).set_ 8 (.int .i64 0)).set_ 9 (.slice none 0 0)).cell
    simp at zz
    go_wp2_with fail
    (try simp only [Exit.inBlock, Exit.then])
    refine bodyPost_ret (v := .agg (mutC mutZ (.slice none 0 0))) (by simp [results, Tryd.results97, go_sem, zz, mutC, mutZ]) rfl ⟨.slice none 0 0, by rw [HX.out], by rw [HX.out]; exact World.ownsRow_nil _ _ _ _, ?_, ?_⟩
    · rw [HX.out]
      exact ((((((((((R.grown (only_set _ w.heap.size 0 _) (fun q hq => by injection hq with hq; omega)).grown (only_set _ w.heap.size 1 _) (fun q hq => by injection hq with hq; omega)).grown (only_set _ w.heap.size 2 _) (fun q hq => by injection hq with hq; omega)).grown (only_set _ w.heap.size 3 _) (fun q hq => by injection hq with hq; omega)).grown (only_set _ w.heap.size 4 _) (fun q hq => by injection hq with hq; omega)).grown (only_set _ w.heap.size 5 _) (fun q hq => by injection hq with hq; omega)).grown (only_set _ w.heap.size 6 _) (fun q hq => by injection hq with hq; omega)).grown (only_set _ w.heap.size 7 _) (fun q hq => by injection hq with hq; omega)).grown (only_set _ w.heap.size 8 _) (fun q hq => by injection hq with hq; omega)).grown (only_set _ w.heap.size 9 _) (fun q hq => by injection hq with hq; omega))
    · exact (grown_newset (grown_newset (grown_newset (grown_newset (grown_newset (grown_newset (grown_newset (grown_newset (grown_newset (grown_newset G (Nat.le_refl _) 0 _) (Nat.le_refl _) 1 _) (Nat.le_refl _) 2 _) (Nat.le_refl _) 3 _) (Nat.le_refl _) 4 _) (Nat.le_refl _) 5 _) (Nat.le_refl _) 6 _) (Nat.le_refl _) 7 _) (Nat.le_refl _) 8 _) (Nat.le_refl _) 9 _)
  subst hy
  have hyn : ((0 : Int) != 0) = false := rfl
  have hkj := key_join last m t
  have hx1 : (last.extract 0 m).size ≤ 24 := by rw [ByteArray.size_extract]; omega
  have hx2 : (tx t).size ≤ 24 := by rw [tx_size]; exact htl
  obtain ⟨key, hkey⟩ : ∃ q, tx ((bs last).take m ++ t) = q := ⟨_, rfl⟩
  rw [hkey] at hkj
  have hks : key.size ≤ 1000 := by
    rw [← hkey, tx_size, List.length_append, List.length_take]
    omega
  obtain ⟨M, k3, y3, e3⟩ : ∃ a k' y', pWith key L k2 0 = (a, k', y') := ⟨_, _, _, rfl⟩
  have C3 := Lib.hid (mut_With w2 (HTW.out.rd HRW.out G) g A n c L k2 0 key (by unfold maxLen; omega) R)
  have hkn2 := R.kn
  have hlR := R.len
  rw [e3] at C3
  have HP : Hid (pOne last L k y = (M, k3, if y3 = 0 ∧ (sh last key : Int) ≠ (m : Int) then 31 else y3)) := Lib.hid (by
    have h3 : pWith (tx ((bs last).take ((m : Int)).toNat ++ t)) L k2 0 = (M, k3, y3) := by
      rw [Int.toNat_natCast, hkey]
      exact e3
    have := pOne_eq HE1.out HE2.out h3
    rw [Int.toNat_natCast, hkey] at this
    exact this)
  have HKV : Hid (y3 = 0 → allRunes key = true) := Lib.hid (fun h0 => by
    obtain ⟨_, _, q1, q2⟩ := (sound_with key).use e3 (by rw [hlR]; exact hkn2) h0
    rw [← q1]
    exact key_valid q2.2.1)
  clear e3 hkey hkn2 hlR
  go_wp2_with fail
  refine C3.out.mono ?_
  clear C3
  rintro x w3 ⟨v9, rfl, O9, R, g9⟩
  have hs1 : w.heap.size < w2.heap.size := B0.lt
  replace B0 := B0.grown g9 (by intro e; injection e with e; omega)
  replace G := grown_trans' G g9
  have hs2 := g9.size
  clear g9 hkj
  obtain ⟨A9, c9, rfl, -, -, -⟩ := own_form O9
  have BX := Blk.new w3 35 (mutC M (.slice A9 M.ov.length c9))
  replace B0 := B0.alloc (.cells (mutC M (.slice A9 M.ov.length c9)) 35)
  replace R := R.alloc (.cells (mutC M (.slice A9 M.ov.length c9)) 35)
  replace G := grown_below G ((Below.refl w3.heap.size w3).alloc (Nat.le_refl _) (.cells (mutC M (.slice A9 M.ov.length c9)) 35))
  have O := Lib.hid (World.ownsRow.alloc O9 (.cells (mutC M (.slice A9 M.ov.length c9)) 35))
  have hs3 : w3.heap.size < (w3.alloc (.cells (mutC M (.slice A9 M.ov.length c9)) 35)).heap.size := by simp
  clear O9
  unfold mutC
  go_upto_region 7 with fail
  change Code.wp _ _ _ _ (w3.alloc (.cells (mutC M (.slice A9 M.ov.length c9)) 35))
  generalize w3.alloc (.cells (mutC M (.slice A9 M.ov.length c9)) 35) = W7 at *
  obtain ⟨gx, hgx⟩ : ∃ q, w3.heap.size = q := ⟨_, rfl⟩
  rw [hgx] at BX hs2 hs3 ⊢
  go_wp2_with fail
  refine (reader_Why _ g A n c L k3 y3 R).mono ?_
  rintro x w9 ⟨rfl, rfl⟩
  by_cases hy : y3 = 0
  case neg =>
    have hye : (y3 == 0) = false := by simp [hy]
    have HX : Hid (pOne last L k y = (M, k3, y3)) := Lib.hid (by rw [HP.out, if_neg (fun h => hy h.1)])
    have HO9 : Hid (OwnSt W7 w2.heap.size (.slice A9 M.ov.length c9) M.ov) := Lib.hid O.out
    clear hy
    have f0 := B0.frozen
    have c0 := B0.cell
    have d0 : W7.cell? ⟨gx, 0, none⟩ = some (.int .i64 M.tab) := BX.cell 0
    have d1 : W7.cell? ⟨gx, 1, none⟩ = some (.int .i64 M.kind) := BX.cell 1
    have d2 : W7.cell? ⟨gx, 2, none⟩ = some (.string M.key) := BX.cell 2
    have d3 : W7.cell? ⟨gx, 3, none⟩ = some (.string M.en) := BX.cell 3
    have d4 : W7.cell? ⟨gx, 4, none⟩ = some (.string M.val) := BX.cell 4
    have d5 : W7.cell? ⟨gx, 5, none⟩ = some (.int .i64 M.exp) := BX.cell 5
    have d6 : W7.cell? ⟨gx, 6, none⟩ = some (.int .i64 M.at_.1) := BX.cell 6
    have d7 : W7.cell? ⟨gx, 7, none⟩ = some (.int .i64 M.at_.2.1) := BX.cell 7
    have d8 : W7.cell? ⟨gx, 8, none⟩ = some (.int .i64 M.at_.2.2) := BX.cell 8
    have d9 : W7.cell? ⟨gx, 9, none⟩ = some (.slice A9 M.ov.length c9) := BX.cell 9
    have zz := ((((((((((B0.set_ 0 (.int .i64 M.tab)).set_ 1 (.int .i64 M.kind)).set_ 2 (.string M.key)).set_ 3 (.string M.en)).set_ 4 (.string M.val)).set_ 5 (.int .i64 M.exp)).set_ 6 (.int .i64 M.at_.1)).set_ 7 (.int .i64 M.at_.2.1)).set_ 8 (.int .i64 M.at_.2.2)).set_ 9 (.slice A9 M.ov.length c9)).cell
    simp at zz
    go_wp2_with fail
    (try simp only [Exit.inBlock, Exit.then])
    refine bodyPost_ret (v := .agg (mutC M (.slice A9 M.ov.length c9))) (by simp [results, Tryd.results97, go_sem, zz, mutC]) rfl ⟨.slice A9 M.ov.length c9, by rw [HX.out], ?_, ?_, ?_⟩
    · rw [HX.out]
      exact own_base (World.ownsRow.kept HO9.out (grown_trans' (grown_trans' (grown_trans' (grown_trans' (grown_trans' (grown_trans' (grown_trans' (grown_trans' (grown_trans' (only_set W7 w.heap.size 0 _) (only_set _ w.heap.size 1 _)) (only_set _ w.heap.size 2 _)) (only_set _ w.heap.size 3 _)) (only_set _ w.heap.size 4 _)) (only_set _ w.heap.size 5 _)) (only_set _ w.heap.size 6 _)) (only_set _ w.heap.size 7 _)) (only_set _ w.heap.size 8 _)) (only_set _ w.heap.size 9 _)) (.inr (fun e => by have := (World.ownsRow.lt HO9.out _ e).1; omega))) (by omega)
    · rw [HX.out]
      exact ((((((((((R.grown (only_set _ w.heap.size 0 _) (fun q hq => by injection hq with hq; omega)).grown (only_set _ w.heap.size 1 _) (fun q hq => by injection hq with hq; omega)).grown (only_set _ w.heap.size 2 _) (fun q hq => by injection hq with hq; omega)).grown (only_set _ w.heap.size 3 _) (fun q hq => by injection hq with hq; omega)).grown (only_set _ w.heap.size 4 _) (fun q hq => by injection hq with hq; omega)).grown (only_set _ w.heap.size 5 _) (fun q hq => by injection hq with hq; omega)).grown (only_set _ w.heap.size 6 _) (fun q hq => by injection hq with hq; omega)).grown (only_set _ w.heap.size 7 _) (fun q hq => by injection hq with hq; omega)).grown (only_set _ w.heap.size 8 _) (fun q hq => by injection hq with hq; omega)).grown (only_set _ w.heap.size 9 _) (fun q hq => by injection hq with hq; omega))
    · exact (grown_newset (grown_newset (grown_newset (grown_newset (grown_newset (grown_newset (grown_newset (grown_newset (grown_newset (grown_newset G (Nat.le_refl _) 0 _) (Nat.le_refl _) 1 _) (Nat.le_refl _) 2 _) (Nat.le_refl _) 3 _) (Nat.le_refl _) 4 _) (Nat.le_refl _) 5 _) (Nat.le_refl _) 6 _) (Nat.le_refl _) 7 _) (Nat.le_refl _) 8 _) (Nat.le_refl _) 9 _)
  subst hy
  obtain ⟨S, hS⟩ : ∃ S, sh last key = S := ⟨_, rfl⟩
  have CS := page_shared last key HLV.out (HKV.out rfl) (by omega) (by omega) W7
  rw [hS] at CS
  have CS := Lib.hid CS
  have HSS := Lib.hid hS
  clear hS
  go_wp2_with fail
  refine CS.out.mono ?_
  rintro x W8 ⟨rfl, b8⟩
  clear CS
  replace B0 := B0.below b8 B0.lt
  replace BX := BX.below b8 BX.lt
  replace R := R.below b8
  replace G := grown_below G b8
  have HO9 : Hid (OwnSt W8 w2.heap.size (.slice A9 M.ov.length c9) M.ov) := Lib.hid (own_below O.out b8)
  replace hs3 := Nat.lt_of_lt_of_le hs3 b8.size
  clear b8 O
  by_cases hSm : S = m
  · subst hSm
    have HX : Hid (pOne last L k y = (M, k3, 0)) := Lib.hid (by rw [HP.out, HSS.out, if_neg (fun h => h.2 rfl)])
    have f0 := B0.frozen
    have c0 := B0.cell
    have d0 : W8.cell? ⟨gx, 0, none⟩ = some (.int .i64 M.tab) := BX.cell 0
    have d1 : W8.cell? ⟨gx, 1, none⟩ = some (.int .i64 M.kind) := BX.cell 1
    have d2 : W8.cell? ⟨gx, 2, none⟩ = some (.string M.key) := BX.cell 2
    have d3 : W8.cell? ⟨gx, 3, none⟩ = some (.string M.en) := BX.cell 3
    have d4 : W8.cell? ⟨gx, 4, none⟩ = some (.string M.val) := BX.cell 4
    have d5 : W8.cell? ⟨gx, 5, none⟩ = some (.int .i64 M.exp) := BX.cell 5
    have d6 : W8.cell? ⟨gx, 6, none⟩ = some (.int .i64 M.at_.1) := BX.cell 6
    have d7 : W8.cell? ⟨gx, 7, none⟩ = some (.int .i64 M.at_.2.1) := BX.cell 7
    have d8 : W8.cell? ⟨gx, 8, none⟩ = some (.int .i64 M.at_.2.2) := BX.cell 8
    have d9 : W8.cell? ⟨gx, 9, none⟩ = some (.slice A9 M.ov.length c9) := BX.cell 9
    have zz := ((((((((((B0.set_ 0 (.int .i64 M.tab)).set_ 1 (.int .i64 M.kind)).set_ 2 (.string M.key)).set_ 3 (.string M.en)).set_ 4 (.string M.val)).set_ 5 (.int .i64 M.exp)).set_ 6 (.int .i64 M.at_.1)).set_ 7 (.int .i64 M.at_.2.1)).set_ 8 (.int .i64 M.at_.2.2)).set_ 9 (.slice A9 M.ov.length c9)).cell
    simp at zz
    go_wp2_with fail
    (try simp only [Exit.inBlock, Exit.then])
    refine bodyPost_ret (v := .agg (mutC M (.slice A9 M.ov.length c9))) (by simp [results, Tryd.results97, go_sem, zz, mutC]) rfl ⟨.slice A9 M.ov.length c9, by rw [HX.out], ?_, ?_, ?_⟩
    · rw [HX.out]
      exact own_base (World.ownsRow.kept HO9.out (grown_trans' (grown_trans' (grown_trans' (grown_trans' (grown_trans' (grown_trans' (grown_trans' (grown_trans' (grown_trans' (only_set W8 w.heap.size 0 _) (only_set _ w.heap.size 1 _)) (only_set _ w.heap.size 2 _)) (only_set _ w.heap.size 3 _)) (only_set _ w.heap.size 4 _)) (only_set _ w.heap.size 5 _)) (only_set _ w.heap.size 6 _)) (only_set _ w.heap.size 7 _)) (only_set _ w.heap.size 8 _)) (only_set _ w.heap.size 9 _)) (.inr (fun e => by have := (World.ownsRow.lt HO9.out _ e).1; omega))) (by omega)
    · rw [HX.out]
      exact ((((((((((R.grown (only_set _ w.heap.size 0 _) (fun q hq => by injection hq with hq; omega)).grown (only_set _ w.heap.size 1 _) (fun q hq => by injection hq with hq; omega)).grown (only_set _ w.heap.size 2 _) (fun q hq => by injection hq with hq; omega)).grown (only_set _ w.heap.size 3 _) (fun q hq => by injection hq with hq; omega)).grown (only_set _ w.heap.size 4 _) (fun q hq => by injection hq with hq; omega)).grown (only_set _ w.heap.size 5 _) (fun q hq => by injection hq with hq; omega)).grown (only_set _ w.heap.size 6 _) (fun q hq => by injection hq with hq; omega)).grown (only_set _ w.heap.size 7 _) (fun q hq => by injection hq with hq; omega)).grown (only_set _ w.heap.size 8 _) (fun q hq => by injection hq with hq; omega)).grown (only_set _ w.heap.size 9 _) (fun q hq => by injection hq with hq; omega))
    · exact (grown_newset (grown_newset (grown_newset (grown_newset (grown_newset (grown_newset (grown_newset (grown_newset (grown_newset (grown_newset G (Nat.le_refl _) 0 _) (Nat.le_refl _) 1 _) (Nat.le_refl _) 2 _) (Nat.le_refl _) 3 _) (Nat.le_refl _) 4 _) (Nat.le_refl _) 5 _) (Nat.le_refl _) 6 _) (Nat.le_refl _) 7 _) (Nat.le_refl _) 8 _) (Nat.le_refl _) 9 _)
  · have hne : ((S : Int) != (m : Int)) = true := by simp; omega
    have HX : Hid (pOne last L k y = (M, k3, 31)) := Lib.hid (by rw [HP.out, HSS.out, if_pos ⟨by trivial, fun h => hSm (by omega)⟩])
    clear hSm
    go_wp2_with fail
    refine (reader_Fail _ g A n c L k3 0 31 R).mono ?_
    rintro x w11 ⟨rfl, rfl⟩
    rw [if_pos rfl]
    replace R := R.fail 31
    replace B0 := B0.far (p := ⟨g, 2, none⟩) (show w.heap.size ≠ g by omega) (.int .i64 31)
    replace BX := BX.far (p := ⟨g, 2, none⟩) (show gx ≠ g by omega) (.int .i64 31)
    replace G := grown_trans' G (only_set W8 g 2 (.int .i64 31))
    replace HO9 : Hid (OwnSt (W8.setCell ⟨g, 2, none⟩ (.int .i64 31)) w2.heap.size (.slice A9 M.ov.length c9) M.ov) := Lib.hid (World.ownsRow.kept HO9.out (only_set W8 g 2 (.int .i64 31)) (.inr (fun e => by have := (World.ownsRow.lt HO9.out _ e).1; omega)))
    generalize W8.setCell ⟨g, 2, none⟩ (.int .i64 31) = V10 at *
    have f0 := B0.frozen
    have c0 := B0.cell
    have d0 : V10.cell? ⟨gx, 0, none⟩ = some (.int .i64 M.tab) := BX.cell 0
    have d1 : V10.cell? ⟨gx, 1, none⟩ = some (.int .i64 M.kind) := BX.cell 1
    have d2 : V10.cell? ⟨gx, 2, none⟩ = some (.string M.key) := BX.cell 2
    have d3 : V10.cell? ⟨gx, 3, none⟩ = some (.string M.en) := BX.cell 3
    have d4 : V10.cell? ⟨gx, 4, none⟩ = some (.string M.val) := BX.cell 4
    have d5 : V10.cell? ⟨gx, 5, none⟩ = some (.int .i64 M.exp) := BX.cell 5
    have d6 : V10.cell? ⟨gx, 6, none⟩ = some (.int .i64 M.at_.1) := BX.cell 6
    have d7 : V10.cell? ⟨gx, 7, none⟩ = some (.int .i64 M.at_.2.1) := BX.cell 7
    have d8 : V10.cell? ⟨gx, 8, none⟩ = some (.int .i64 M.at_.2.2) := BX.cell 8
    have d9 : V10.cell? ⟨gx, 9, none⟩ = some (.slice A9 M.ov.length c9) := BX.cell 9
    have zz := ((((((((((B0.set_ 0 (.int .i64 M.tab)).set_ 1 (.int .i64 M.kind)).set_ 2 (.string M.key)).set_ 3 (.string M.en)).set_ 4 (.string M.val)).set_ 5 (.int .i64 M.exp)).set_ 6 (.int .i64 M.at_.1)).set_ 7 (.int .i64 M.at_.2.1)).set_ 8 (.int .i64 M.at_.2.2)).set_ 9 (.slice A9 M.ov.length c9)).cell
    simp at zz
    go_wp2_with fail
    (try simp only [Exit.inBlock, Exit.then])
    refine bodyPost_ret (v := .agg (mutC M (.slice A9 M.ov.length c9))) (by simp [results, Tryd.results97, go_sem, zz, mutC]) rfl ⟨.slice A9 M.ov.length c9, by rw [HX.out], ?_, ?_, ?_⟩
    · rw [HX.out]
      exact own_base (World.ownsRow.kept HO9.out (grown_trans' (grown_trans' (grown_trans' (grown_trans' (grown_trans' (grown_trans' (grown_trans' (grown_trans' (grown_trans' (only_set V10 w.heap.size 0 _) (only_set _ w.heap.size 1 _)) (only_set _ w.heap.size 2 _)) (only_set _ w.heap.size 3 _)) (only_set _ w.heap.size 4 _)) (only_set _ w.heap.size 5 _)) (only_set _ w.heap.size 6 _)) (only_set _ w.heap.size 7 _)) (only_set _ w.heap.size 8 _)) (only_set _ w.heap.size 9 _)) (.inr (fun e => by have := (World.ownsRow.lt HO9.out _ e).1; omega))) (by omega)
    · rw [HX.out]
      exact ((((((((((R.grown (only_set _ w.heap.size 0 _) (fun q hq => by injection hq with hq; omega)).grown (only_set _ w.heap.size 1 _) (fun q hq => by injection hq with hq; omega)).grown (only_set _ w.heap.size 2 _) (fun q hq => by injection hq with hq; omega)).grown (only_set _ w.heap.size 3 _) (fun q hq => by injection hq with hq; omega)).grown (only_set _ w.heap.size 4 _) (fun q hq => by injection hq with hq; omega)).grown (only_set _ w.heap.size 5 _) (fun q hq => by injection hq with hq; omega)).grown (only_set _ w.heap.size 6 _) (fun q hq => by injection hq with hq; omega)).grown (only_set _ w.heap.size 7 _) (fun q hq => by injection hq with hq; omega)).grown (only_set _ w.heap.size 8 _) (fun q hq => by injection hq with hq; omega)).grown (only_set _ w.heap.size 9 _) (fun q hq => by injection hq with hq; omega))
    · exact (grown_newset (grown_newset (grown_newset (grown_newset (grown_newset (grown_newset (grown_newset (grown_newset (grown_newset (grown_newset G (Nat.le_refl _) 0 _) (Nat.le_refl _) 1 _) (Nat.le_refl _) 2 _) (Nat.le_refl _) 3 _) (Nat.le_refl _) 4 _) (Nat.le_refl _) 5 _) (Nat.le_refl _) 6 _) (Nat.le_refl _) 7 _) (Nat.le_refl _) 8 _) (Nat.le_refl _) 9 _)
end Go.Proofs.YthbhbechemnidaaDoor

namespace Go.Proofs.YthbhbechemnidaaDoor
open Go.RowKit

structure Sl (p : Prop) : Prop where
  out : p
theorem quiet_mono1 {P : Program} {ops : Array Oper} {C : World → Prop} {Q Q' : Act → Prop} {o : Oper} {a : Act} (h : ∀ a, Q a → Q' a) (hh : wpQuiet P ops C Q [o] a) : wpQuiet P ops C Q' [o] a := by
  unfold wpQuiet at hh ⊢
  split at hh
  · rename_i hw
    rw [if_pos hw]
    exact Oper.quiet_mono (fun a ha => h a ha) hh
  · rename_i hw
    rw [if_neg hw]
    exact h _ hh
section
variable {S : Nat → Prop} {P : Program} {N : List Nat} {l : List Oper} {Q : Exit → Act → World → Prop}
theorem wp_region_mixS {id : Nat} {a : Act} {w : World} (S : Nat → Prop) (N : List Nat) (ord : List Nat) (hm : P.follows .mixedOrders = true) (hB : mixBL N l ord = true) (h : Sl (wpMixL S P N l Q ord a w.drew)) : (Code.region id l.toArray true).wp P Q a w :=
  wp_region_mixL S N ord hm hB h.out
theorem mix_calmS {a : Act} {w : World} {i : Nat} {rest : List Nat} {o : Oper} {t : List Oper} (h0 : l.drop i = o :: t) (hc : calmL N i o = true)
    (h : wpQuiet P l.toArray (fun w' => ∃ p : Kept S w, w' = p.v) (fun a' => Sl (wpMixL S P N l Q rest a' w)) [o] a) : Sl (wpMixL S P N l Q (i :: rest) a w) :=
  ⟨mix_calmL h0 hc (quiet_mono1 (fun _ h => h.out) h)⟩
theorem mix_loudS {a : Act} {w : World} {i : Nat} {rest : List Nat} {o : Oper} {t : List Oper} (h0 : l.drop i = o :: t) (hc : calmL N i o = false)
    (h : ∀ K : Exit → Act → World → Prop, (∀ a' w'', Stand S w w'' → Sl (wpMixL S P N l Q rest a' w'') → K .normal a' w'') → wpList P l.toArray K [o] a w) : Sl (wpMixL S P N l Q (i :: rest) a w) :=
  ⟨mix_loudL h0 hc (fun K hK => h K (fun a' w'' h1 h2 => hK a' w'' h1 h2.out))⟩
theorem mix_endS {a : Act} {w : World} (h : Q .normal a w) : Sl (wpMixL S P N l Q [] a w) := ⟨mix_endL h⟩
end
end Go.Proofs.YthbhbechemnidaaDoor

namespace Go.Proofs.YthbhbechemnidaaDoor
open Go.RowKit Go.Sort

theorem cnt_fault {most : Int} {L : List UInt8} {k k1 : Nat} {y y1 c : Int} (h : pCnt most L k y = (c, k1, y1)) (hy : y1 ≠ 0) : c = 0 := by
  have h1 := rNum_facts (L.drop k) y
  unfold pCnt rCount at h
  split at h
  · simp only [Prod.mk.injEq] at h
    have := h.1
    simpa using this.symm
  · simp only [Prod.mk.injEq] at h
    obtain ⟨e1, _, e2⟩ := h
    have := (h1.2.2 (by rw [e2]; exact hy)).1
    rw [this] at e1
    simpa using e1.symm
def PgRel (w : World) (g : Nat) (A : Option Addr) (n c : Nat) (L : List UInt8) (m k1 : Nat) (y1 : Int) (v3 v4 v8 : Value) (wr : World) : Prop :=
  ∃ (i k : Nat) (M : List Mut), v8 = .int .i64 i ∧ i ≤ m ∧ M.length = i ∧ v4 = .string (lastK M) ∧ Rd wr g A n c L k y1 ∧ OwnM wr w.heap.size w.heap.size v3 M ∧ w.grownBy wr (some g) ∧ (∀ x ∈ M, MutRt x) ∧ (y1 ≠ 0 → k = k1 ∧ M = []) ∧ (y1 = 0 → pLoop m [] L k1 0 = pLoop (m - i) M L k 0)
theorem pLoop_step {n : Nat} {M : List Mut} {L : List UInt8} {k ks : Nat} {t : Mut} {ys : Int} (h : pOne (lastK M) L k 0 = (t, ks, ys)) : pLoop (n + 1) M L k 0 = if ys = 0 then (if risesB M t = true then pLoop n (M ++ [t]) L ks 0 else ([], ks, 31)) else ([], ks, ys) := by
  have e : pLoop (n + 1) M L k 0 = if (pStep M L k 0).2.2 = 0 then pLoop n (M ++ [(pStep M L k 0).1]) L (pStep M L k 0).2.1 0 else ([], (pStep M L k 0).2.1, (pStep M L k 0).2.2) := rfl
  rw [e, pStep_eq h]
  dsimp only
  by_cases h0 : ys = 0
  · cases hr : risesB M t <;> simp [h0]
  · simp [h0]
theorem rises_last (M : List Mut) (t : Mut) (p : Nat) (hp : M.length = p + 1) (hk : p < M.length) : risesB M t = decide (cmpMem M[p] t < 0) := by
  unfold risesB
  have e : M.getLast? = some M[p] := by
    rw [List.getLast?_eq_getElem?, hp, Nat.add_sub_cancel, List.getElem?_eq_getElem hk]
  rw [e]

set_option maxRecDepth 100000 in
set_option maxHeartbeats 8000000 in
theorem page_Get (w : World) (hT : Tabs w) (g : Nat) (A : Option Addr) (n c : Nat) (L : List UInt8) (k : Nat) (y : Int) (hR : Rd w g A n c L k y) :
    Calls Tryd.prog 55 #[.pointer (some ⟨g, 0, none⟩)] w (ListTo w g A n c L (pPage L k y).1 (pPage L k y).2.1 (pPage L k y).2.2) := by
  have hgl := hR.blk.lt
  have HRW := Lib.hid hR
  have HTW := Lib.hid hT
  have HLL := Lib.hid hR.len
  obtain ⟨cc, k1, y1, e9⟩ : ∃ a k' y', pCnt 8 L k y = (a, k', y') := ⟨_, _, _, rfl⟩
  have C9 := Lib.hid (rdCnt w g A n c L k y 8 hR)
  have hcb := cnt_bounds 8 (by decide) L k y
  rw [e9] at C9 hcb
  obtain ⟨m, hm⟩ : ∃ m : Nat, cc = m := ⟨cc.toNat, by have := hcb.1; simp only [] at this; omega⟩
  subst hm
  have hm8 : m ≤ 8 := by have := hcb.2; simp only [] at this; omega
  have HF0 : Hid (y1 ≠ 0 → m = 0) := Lib.hid (fun h => by have := cnt_fault e9 h; omega)
  have HE0 : Hid (y1 = 0 → pPage L k y = pLoop m [] L k1 0) := Lib.hid (fun h => by
    unfold pPage
    rw [e9]
    dsimp only
    rw [Int.toNat_natCast, if_pos h])
  have HE1 : Hid (y1 ≠ 0 → pPage L k y = ([], k1, y1)) := Lib.hid (fun h => by
    unfold pPage
    rw [e9]
    dsimp only
    rw [if_neg h])
  clear hR hT hcb e9
  go_enter Tryd.func55, Tryd.ntmps55
  go_wp2_with fail
  refine C9.out.mono ?_
  clear C9
  rintro x w1 ⟨rfl, R, G⟩
  go_wp2_with fail
  go_loopw [3, 4, 5, 8] (fun v3 v4 _ v8 wr => PgRel w g A n c L m k1 y1 v3 v4 v8 wr) (fun _ _ _ v8 _ => m - (RowKit.intOf v8).toNat)
  case atStart => exact ⟨0, k1, [], rfl, Nat.zero_le _, rfl, rfl, R, OwnM.nil_ _ _ _, G, (fun _ h => by cases h), fun _ => ⟨rfl, rfl⟩, fun _ => rfl⟩
  case round =>
    clear R G
    obtain ⟨i, kk, M, rfl, hi, hMl, rfl, R, hO, G, hMR, hY1, hY0⟩ := hrel
    have HO := Lib.hid hO
    have HML := Lib.hid hMl
    have HMR := Lib.hid hMR
    have HY1 := Lib.hid hY1
    have HY0 := Lib.hid hY0
    clear hO hMl hMR hY1 hY0
    by_cases him : i < m
    · have hy1 : y1 = 0 := Classical.byContradiction fun h => by have := HF0.out h; omega
      subst hy1
      have hlv := lastv HMR.out
      obtain ⟨t, ks, ys, es⟩ : ∃ a k' y', pOne (lastK M) L kk 0 = (a, k', y') := ⟨_, _, _, rfl⟩
      have hkn := R.kn
      have HRT : Hid (ys = 0 → MutRt t) := Lib.hid (fun h0 => ((sound_one (lastK M)).use es (by rw [HLL.out]; exact hkn) h0).2.2)
      have HSM : Hid (t.ov.length ≤ 24) := Lib.hid (by
        obtain ⟨nn, q1, z1, h1⟩ : ∃ a k' y', pCnt ((lastK M).size : Int) L kk 0 = (a, k', y') := ⟨_, _, _, rfl⟩
        obtain ⟨tt, q2, z2, h2⟩ : ∃ a k' y', pTxt 24 L q1 z1 = (a, k', y') := ⟨_, _, _, rfl⟩
        have g1 := (going_cnt _).use h1 (by rw [HLL.out]; exact hkn)
        have g2 := (going_txt 24).use h2 g1.2
        by_cases hz : z2 = 0
        · subst hz
          obtain ⟨mm, q3, z3, h3⟩ : ∃ a k' y', pWith (tx ((bs (lastK M)).take nn.toNat ++ tt)) L q2 0 = (a, k', y') := ⟨_, _, _, rfl⟩
          have e3 := pOne_eq h1 h2 h3
          rw [es] at e3
          have := pWith_small (tx ((bs (lastK M)).take nn.toNat ++ tt)) L q2 0 g2.2
          rw [h3] at this
          injection e3 with e3 _
          rw [e3]
          exact this
        · have e3 := pOne_bad h1 h2 hz
          rw [es] at e3
          injection e3 with e3 _
          rw [e3]
          exact Nat.zero_le _)
      have HST : Hid (pLoop m [] L k1 0 = if ys = 0 then (if risesB M t = true then pLoop (m - (i + 1)) (M ++ [t]) L ks 0 else ([], ks, 31)) else ([], ks, ys)) := Lib.hid (by
        rw [HY0.out (by trivial), show m - i = (m - (i + 1)) + 1 by omega]
        exact pLoop_step es)
      have C1 := Lib.hid (page_one wr (HTW.out.rd HRW.out G) g A n c L kk 0 (lastK M) hlv.1 hlv.2 R)
      rw [es] at C1
      have hwr := G.size
      clear es hkn HY0 HY1 hlv
      go_wp2_with fail
      refine C1.out.mono ?_
      clear C1
      rintro x w2 ⟨v9, rfl, O9, R, g9⟩
      have HO2 := Lib.hid (HO.out.grown_g g9 (by omega) (by omega))
      have HLT := Lib.hid (HO.out.lt)
      replace G := grown_trans' G g9
      have hs2 := g9.size
      clear g9 HO
      obtain ⟨A9, c9, rfl, -, hAc, -⟩ := own_form O9
      have O := Lib.hid O9
      have HAC := Lib.hid hAc
      clear O9 hAc
      have hbs : w.heap.size ≤ w2.heap.size := Nat.le_trans hwr hs2
      obtain ⟨A3, c3, rfl, -, -, R3⟩ := HO2.out.rd
      have hlen : M.length ≤ 1000000000 := by have := HML.out; omega
      have BX := Blk.new w2 35 (mutC t (.slice A9 t.ov.length c9))
      have bb : Below w2.heap.size w2 (w2.alloc (.cells (mutC t (.slice A9 t.ov.length c9)) 35)) := (Below.refl _ _).alloc (Nat.le_refl _) _
      replace R := R.alloc (.cells (mutC t (.slice A9 t.ov.length c9)) 35)
      replace G := grown_below G bb
      have O6 := Lib.hid (own_below O.out bb)
      have HO6 := Lib.hid (HO2.out.below bb)
      have R6 := Lib.hid (R3.below bb)
      have hsx : w2.heap.size < (w2.alloc (.cells (mutC t (.slice A9 t.ov.length c9)) 35)).heap.size := by simp
      have HLO2 := Lib.hid (fun k hk => HLT.out k hk)
      clear R3 bb HO2 O
      unfold mutC
      go_upto_region 6 with fail
      change Code.wp _ _ _ _ (w2.alloc (.cells (mutC t (.slice A9 t.ov.length c9)) 35))
      generalize w2.alloc (.cells (mutC t (.slice A9 t.ov.length c9)) 35) = W6 at *
      obtain ⟨gx, hgx⟩ : ∃ q, w2.heap.size = q := ⟨_, rfl⟩
      rw [hgx] at BX hsx hbs ⊢
      obtain ⟨q, hq⟩ : ∃ q, (decide (ys = 0) && !risesB M t) = q := ⟨_, rfl⟩
      have HQ := Lib.hid hq
      clear hq
      go_cut [31] from 9 to 43 (fun s31 wx => s31 = .bool q ∧ Below W6.heap.size W6 wx)
      case first =>
        have hWd : Below W6.heap.size W6 W6.drew := below_drewN (Below.refl _ _) 1
        have RD : Rd W6.drew g A n c L ks ys := R.drewN 1
        by_cases hy : ys = 0
        · subst hy
          by_cases hM0 : M.length = 0
          · have hq := HQ.out
            have hqf : q = false := by rw [← hq, List.eq_nil_of_length_eq_zero hM0]; rfl
            subst hqf
            clear hq HQ
            have hye : ((0 : Int) == 0) = true := rfl
            have hgt : decide (0 < M.length) = false := by rw [hM0]; rfl
            clear hM0
            refine wp_region_mixS (fun _ => True) [3, 8] [0, 1, 2, 3, 4, 5, 6, 7, 8, 9, 10, 11, 12, 13, 14, 15, 16, 17, 18] (by kernel_rfl) (by kernel_rfl) ?_
            iterate 1 (refine mix_calmS rfl rfl ?_; go_big_quiet_step (fail); refine wpQuiet_nil ?_)
            refine mix_loudS rfl (by kernel_rfl) ?_
            intro K1 hK1
            have HK := Lib.hid hK1
            clear hK1
            go_wp2_with fail
            refine (reader_Why W6.drew g A n c L ks 0 RD).mono ?_
            rintro x w9 ⟨rfl, rfl⟩
            go_wp2_with fail
            refine HK.out _ _ (Stand.refl _ _) ?_
            clear HK
            iterate 1 (refine mix_calmS rfl rfl ?_; go_big_quiet_step (fail); refine wpQuiet_nil ?_)
            refine mix_loudS rfl (by kernel_rfl) ?_
            intro K1 hK1
            have HK := Lib.hid hK1
            clear hK1
            go_wp2_with fail
            refine HK.out _ _ (Stand.refl _ _) ?_
            clear HK
            iterate 4 (refine mix_calmS rfl rfl ?_; go_big_quiet_step (fail); refine wpQuiet_nil ?_)
            refine mix_loudS rfl (by kernel_rfl) ?_
            intro K1 hK1
            have HK := Lib.hid hK1
            clear hK1
            go_wp2_with fail
            refine HK.out _ _ (Stand.refl _ _) ?_
            clear HK
            iterate 7 (refine mix_calmS rfl rfl ?_; go_big_quiet_step (fail); refine wpQuiet_nil ?_)
            refine mix_loudS rfl (by kernel_rfl) ?_
            intro K1 hK1
            have HK := Lib.hid hK1
            clear hK1
            go_wp2_with fail
            refine HK.out _ _ (Stand.refl _ _) ?_
            clear HK
            iterate 2 (refine mix_calmS rfl rfl ?_; go_big_quiet_step (fail); refine wpQuiet_nil ?_)
            refine mix_endS ?_
            go_wp2_with fail
            go_meet
            case rel => exact ⟨rfl, hWd⟩
          · obtain ⟨p, hp⟩ : ∃ p, M.length = p + 1 := ⟨M.length - 1, by omega⟩
            have hpk : p < M.length := by omega
            have hq := HQ.out
            rw [rises_last M t p hp hpk] at hq
            obtain ⟨x, b, off, hx, hA, hb, hc, hrx, hz, -⟩ := R6.out.at_ hpk
            subst hA
            rw [← hx] at hq
            obtain ⟨cz, hcz⟩ : ∃ cz, cmpMem x.m t = cz := ⟨_, rfl⟩
            rw [hcz] at hq
            have hqe : decide (0 ≤ cz) = q := by
              rw [← hq]
              by_cases h9 : cz < 0
              · rw [decide_eq_false (by omega), decide_eq_true h9]; rfl
              · rw [decide_eq_true (by omega), decide_eq_false h9]; rfl
            have q0 : ∀ r : Kept (fun _ => True) W6.drew, r.v.cell? ⟨b, off + p * 10, none⟩ = some (.int .i64 x.m.tab) := fun r => r.h.cell trivial (hc 0 _ (by decide) rfl)
            have q1 : ∀ r : Kept (fun _ => True) W6.drew, r.v.cell? ⟨b, off + p * 10 + 1, none⟩ = some (.int .i64 x.m.kind) := fun r => r.h.cell trivial (hc 1 _ (by decide) rfl)
            have q2 : ∀ r : Kept (fun _ => True) W6.drew, r.v.cell? ⟨b, off + p * 10 + 2, none⟩ = some (.string x.m.key) := fun r => r.h.cell trivial (hc 2 _ (by decide) rfl)
            have q3 : ∀ r : Kept (fun _ => True) W6.drew, r.v.cell? ⟨b, off + p * 10 + 3, none⟩ = some (.string x.m.en) := fun r => r.h.cell trivial (hc 3 _ (by decide) rfl)
            have q4 : ∀ r : Kept (fun _ => True) W6.drew, r.v.cell? ⟨b, off + p * 10 + 4, none⟩ = some (.string x.m.val) := fun r => r.h.cell trivial (hc 4 _ (by decide) rfl)
            have q5 : ∀ r : Kept (fun _ => True) W6.drew, r.v.cell? ⟨b, off + p * 10 + 5, none⟩ = some (.int .i64 x.m.exp) := fun r => r.h.cell trivial (hc 5 _ (by decide) rfl)
            have q6 : ∀ r : Kept (fun _ => True) W6.drew, r.v.cell? ⟨b, off + p * 10 + 6, none⟩ = some (.int .i64 x.m.at_.1) := fun r => r.h.cell trivial (hc 6 _ (by decide) rfl)
            have q7 : ∀ r : Kept (fun _ => True) W6.drew, r.v.cell? ⟨b, off + p * 10 + 7, none⟩ = some (.int .i64 x.m.at_.2.1) := fun r => r.h.cell trivial (hc 7 _ (by decide) rfl)
            have q8 : ∀ r : Kept (fun _ => True) W6.drew, r.v.cell? ⟨b, off + p * 10 + 8, none⟩ = some (.int .i64 x.m.at_.2.2) := fun r => r.h.cell trivial (hc 8 _ (by decide) rfl)
            have q9 : ∀ r : Kept (fun _ => True) W6.drew, r.v.cell? ⟨b, off + p * 10 + 9, none⟩ = some (.slice x.A x.n x.c) := fun r => r.h.cell trivial (hc 9 _ (by decide) rfl)
            have d0 : ∀ r : Kept (fun _ => True) W6.drew, r.v.cell? ⟨gx, 0, none⟩ = some (.int .i64 t.tab) := fun r => r.h.cell trivial (BX.drew.cell 0)
            have d1 : ∀ r : Kept (fun _ => True) W6.drew, r.v.cell? ⟨gx, 1, none⟩ = some (.int .i64 t.kind) := fun r => r.h.cell trivial (BX.drew.cell 1)
            have d2 : ∀ r : Kept (fun _ => True) W6.drew, r.v.cell? ⟨gx, 2, none⟩ = some (.string t.key) := fun r => r.h.cell trivial (BX.drew.cell 2)
            have d3 : ∀ r : Kept (fun _ => True) W6.drew, r.v.cell? ⟨gx, 3, none⟩ = some (.string t.en) := fun r => r.h.cell trivial (BX.drew.cell 3)
            have d4 : ∀ r : Kept (fun _ => True) W6.drew, r.v.cell? ⟨gx, 4, none⟩ = some (.string t.val) := fun r => r.h.cell trivial (BX.drew.cell 4)
            have d5 : ∀ r : Kept (fun _ => True) W6.drew, r.v.cell? ⟨gx, 5, none⟩ = some (.int .i64 t.exp) := fun r => r.h.cell trivial (BX.drew.cell 5)
            have d6 : ∀ r : Kept (fun _ => True) W6.drew, r.v.cell? ⟨gx, 6, none⟩ = some (.int .i64 t.at_.1) := fun r => r.h.cell trivial (BX.drew.cell 6)
            have d7 : ∀ r : Kept (fun _ => True) W6.drew, r.v.cell? ⟨gx, 7, none⟩ = some (.int .i64 t.at_.2.1) := fun r => r.h.cell trivial (BX.drew.cell 7)
            have d8 : ∀ r : Kept (fun _ => True) W6.drew, r.v.cell? ⟨gx, 8, none⟩ = some (.int .i64 t.at_.2.2) := fun r => r.h.cell trivial (BX.drew.cell 8)
            have d9 : ∀ r : Kept (fun _ => True) W6.drew, r.v.cell? ⟨gx, 9, none⟩ = some (.slice A9 t.ov.length c9) := fun r => r.h.cell trivial (BX.drew.cell 9)
            have CM := mem_Compare x.m t x.A A9 x.n x.c t.ov.length c9 W6.drew (hrx.drewN 1) ((Reads.of_own O6.out).drewN 1) hz
            rw [hcz] at CM
            unfold mutC at CM
            have CM := Lib.hid CM
            have hsub : (M.length : Int) - 1 = p := by omega
            have hye : ((0 : Int) == 0) = true := rfl
            have hgt : decide (0 < M.length) = true := by rw [hp]; simp
            clear hc hrx hx hq hcz hM0 HQ hp
            refine wp_region_mixS (fun _ => True) [3, 8] [0, 1, 2, 3, 4, 5, 6, 7, 8, 9, 10, 11, 12, 13, 14, 15, 16, 17, 18] (by kernel_rfl) (by kernel_rfl) ?_
            iterate 1 (refine mix_calmS rfl rfl ?_; go_big_quiet_step (fail); refine wpQuiet_nil ?_)
            refine mix_loudS rfl (by kernel_rfl) ?_
            intro K1 hK1
            have HK := Lib.hid hK1
            clear hK1
            go_wp2_with fail
            refine (reader_Why W6.drew g A n c L ks 0 RD).mono ?_
            rintro x w9 ⟨rfl, rfl⟩
            go_wp2_with fail
            refine HK.out _ _ (Stand.refl _ _) ?_
            clear HK
            iterate 1 (refine mix_calmS rfl rfl ?_; go_big_quiet_step (fail); refine wpQuiet_nil ?_)
            refine mix_loudS rfl (by kernel_rfl) ?_
            intro K1 hK1
            have HK := Lib.hid hK1
            clear hK1
            go_wp2_with fail
            refine HK.out _ _ (Stand.refl _ _) ?_
            clear HK
            iterate 4 (refine mix_calmS rfl rfl ?_; go_big_quiet_step (fail); refine wpQuiet_nil ?_)
            refine mix_loudS rfl (by kernel_rfl) ?_
            intro K1 hK1
            have HK := Lib.hid hK1
            clear hK1
            go_wp2_with fail
            refine HK.out _ _ (Stand.refl _ _) ?_
            clear HK
            iterate 7 (refine mix_calmS rfl rfl ?_; go_big_quiet_step (fail); refine wpQuiet_nil ?_)
            refine mix_loudS rfl (by kernel_rfl) ?_
            intro K1 hK1
            have HK := Lib.hid hK1
            clear hK1
            go_wp2_with fail
            refine (CM.out).mono ?_
            rintro x w8 ⟨rfl, b8⟩
            have HS9 := Lib.hid (Stand.of_below (S := fun _ => True) b8)
            have hB8 := hWd.trans (b8.mono hWd.size)
            clear b8 CM q0 d0 q1 d1 q2 d2 q3 d3 q4 d4 q5 d5 q6 d6 q7 d7 q8 d8 q9 d9
            go_wp2_with fail
            refine HK.out _ _ (HS9.out) ?_
            clear HK
            iterate 2 (refine mix_calmS rfl rfl ?_; go_big_quiet_step (fail); refine wpQuiet_nil ?_)
            refine mix_endS ?_
            go_wp2_with fail
            go_meet
            case rel => exact ⟨by rw [← hqe], hB8⟩
        · have hqf : q = false := by rw [← HQ.out, decide_eq_false hy]; rfl
          subst hqf
          have hye : (ys == 0) = false := by simp [hy]
          refine wp_region_mixS (fun _ => True) [3, 8] [0, 1, 2, 3, 4, 5, 6, 7, 8, 9, 10, 11, 12, 13, 14, 15, 16, 17, 18] (by kernel_rfl) (by kernel_rfl) ?_
          iterate 1 (refine mix_calmS rfl rfl ?_; go_big_quiet_step (fail); refine wpQuiet_nil ?_)
          refine mix_loudS rfl (by kernel_rfl) ?_
          intro K1 hK1
          have HK := Lib.hid hK1
          clear hK1
          go_wp2_with fail
          refine (reader_Why W6.drew g A n c L ks ys RD).mono ?_
          rintro x w9 ⟨rfl, rfl⟩
          go_wp2_with fail
          refine HK.out _ _ (Stand.refl _ _) ?_
          clear HK
          iterate 1 (refine mix_calmS rfl rfl ?_; go_big_quiet_step (fail); refine wpQuiet_nil ?_)
          refine mix_loudS rfl (by kernel_rfl) ?_
          intro K1 hK1
          have HK := Lib.hid hK1
          clear hK1
          go_wp2_with fail
          refine HK.out _ _ (Stand.refl _ _) ?_
          clear HK
          iterate 4 (refine mix_calmS rfl rfl ?_; go_big_quiet_step (fail); refine wpQuiet_nil ?_)
          refine mix_loudS rfl (by kernel_rfl) ?_
          intro K1 hK1
          have HK := Lib.hid hK1
          clear hK1
          go_wp2_with fail
          refine HK.out _ _ (Stand.refl _ _) ?_
          clear HK
          iterate 7 (refine mix_calmS rfl rfl ?_; go_big_quiet_step (fail); refine wpQuiet_nil ?_)
          refine mix_loudS rfl (by kernel_rfl) ?_
          intro K1 hK1
          have HK := Lib.hid hK1
          clear hK1
          go_wp2_with fail
          refine HK.out _ _ (Stand.refl _ _) ?_
          clear HK
          iterate 2 (refine mix_calmS rfl rfl ?_; go_big_quiet_step (fail); refine wpQuiet_nil ?_)
          refine mix_endS ?_
          go_wp2_with fail
          go_meet
          case rel => exact ⟨rfl, hWd⟩
      case rest =>
      obtain ⟨rfl, b7⟩ := hcut
      obtain ⟨W7, hW7⟩ : ∃ W7, W7 = wc := ⟨_, rfl⟩
      subst hW7
      replace R := R.below b7
      replace G := grown_below G b7
      replace BX := BX.below b7 BX.lt
      have O7 := Lib.hid (own_below O6.out b7)
      have HO7 := Lib.hid (HO6.out.below b7)
      have hs7 : gx < W7.heap.size := Nat.lt_of_lt_of_le hsx b7.size
      clear b7 O6 HO6 R6
      go_upto_if 31 with fail
      cases q
      case true =>
        have hq := HQ.out
        rw [Bool.and_eq_true, Bool.not_eq_true'] at hq
        have hy : ys = 0 := of_decide_eq_true hq.1
        subst hy
        have HX : Hid (pPage L k y = ([], ks, 31)) := Lib.hid (by
          rw [HE0.out (by trivial), HST.out, if_pos (by trivial), hq.2]
          rfl)
        clear hq
        go_wp2_with fail
        refine (reader_Fail _ g A n c L ks 0 31 R).mono ?_
        rintro x w11 ⟨rfl, rfl⟩
        rw [if_pos rfl]
        replace R := R.fail 31
        replace G := grown_trans' G (only_set W7 g 2 (.int .i64 31))
        generalize W7.setCell ⟨g, 2, none⟩ (.int .i64 31) = V10 at *
        go_wp2_with fail
        refine (reader_Why _ g A n c L ks 31 R).mono ?_
        rintro x w9 ⟨rfl, rfl⟩
        go_wp2_with fail
        go_ret
        refine ⟨_, rfl, ?_, ⟨ks, fun _ => ?_, ?_⟩, G⟩
        · rw [HX.out]
          exact OwnM.nil_ _ _ _
        · rw [HX.out]
        · rw [HX.out]
          exact R
      case false =>
        by_cases hy : ys = 0
        case neg =>
          have hyn : (ys != 0) = true := by simp [hy]
          have HX : Hid (pPage L k y = ([], ks, ys)) := Lib.hid (by rw [HE0.out (by trivial), HST.out, if_neg hy])
          have HY := Lib.hid hy
          clear hy
          go_wp2_with fail
          refine (reader_Why _ g A n c L ks ys R).mono ?_
          rintro x w9 ⟨rfl, rfl⟩
          go_wp2_with fail
          go_ret
          refine ⟨_, rfl, ?_, ⟨ks, fun _ => ?_, ?_⟩, G⟩
          · rw [HX.out, if_neg HY.out]
            exact OwnM.nil_ _ _ _
          · rw [HX.out]
          · rw [HX.out]
            exact R
        subst hy
        have hyn : ((0 : Int) != 0) = false := rfl
        have hr : risesB M t = true := by
          have hq := HQ.out
          rw [decide_eq_true rfl, Bool.true_and] at hq
          simpa using hq
        have HS2 : Hid (pLoop m [] L k1 0 = pLoop (m - (i + 1)) (M ++ [t]) L ks 0) := Lib.hid (by rw [HST.out, if_pos (by trivial), if_pos hr])
        clear hr HST HQ
        go_wp2_with fail
        refine (reader_Why _ g A n c L ks 0 R).mono ?_
        rintro x w9 ⟨rfl, rfl⟩
        have d0 : W7.cell? ⟨gx, 0, none⟩ = some (.int .i64 t.tab) := BX.cell 0
        have d1 : W7.cell? ⟨gx, 1, none⟩ = some (.int .i64 t.kind) := BX.cell 1
        have d2 : W7.cell? ⟨gx, 2, none⟩ = some (.string t.key) := BX.cell 2
        have d3 : W7.cell? ⟨gx, 3, none⟩ = some (.string t.en) := BX.cell 3
        have d4 : W7.cell? ⟨gx, 4, none⟩ = some (.string t.val) := BX.cell 4
        have d5 : W7.cell? ⟨gx, 5, none⟩ = some (.int .i64 t.exp) := BX.cell 5
        have d6 : W7.cell? ⟨gx, 6, none⟩ = some (.int .i64 t.at_.1) := BX.cell 6
        have d7 : W7.cell? ⟨gx, 7, none⟩ = some (.int .i64 t.at_.2.1) := BX.cell 7
        have d8 : W7.cell? ⟨gx, 8, none⟩ = some (.int .i64 t.at_.2.2) := BX.cell 8
        have d9 : W7.cell? ⟨gx, 9, none⟩ = some (.slice A9 t.ov.length c9) := BX.cell 9
        have HNE : Hid (∀ ad, A9 = some ad → (Value.slice A3 M.length c3).ownBlock ≠ some ad.block) := Lib.hid (fun ad hA e => by
          have h1 := (HLO2.out _ e).2
          have h2 := (World.ownsRow.lt O7.out ad.block (by rw [hA]; rfl)).1
          omega)
        have HLO : Hid (∀ ad, A9 = some ad → w.heap.size ≤ ad.block ∧ ad.block < W7.heap.size) := Lib.hid (fun ad hA => by
          have h2 := World.ownsRow.lt O7.out ad.block (by rw [hA]; rfl)
          omega)
        have hbs7 : w.heap.size ≤ W7.heap.size := by omega
        have hov : t.ov.length ≤ 1000000000 := by have := HSM.out; omega
        have HNX : Hid (some gx ≠ (Value.slice A3 M.length c3).ownBlock) := Lib.hid (fun e => by have := (HLO2.out gx e.symm).2; omega)
        go_wp2_with (at_builtin; go_must (refine append_mut_u W7 t A9 t.ov.length c9 _ (by unfold mutC; simp) rfl _ _ rfl w.heap.size w.heap.size _ M rfl HO7.out (Reads.of_own O7.out) HNE.out HLO.out ⟨hov, HAC.out⟩ rfl hlen hbs7 ?_); intro v7 w7 O8 G7 _; (have BX8 := (BX.alloc (.cells _ 35)).grown G7 HNX.out); (have d2 : w7.cell? ⟨gx, 2, none⟩ = some (.string t.key) := BX8.cell 2))
        have R7 := (R.alloc (.cells _ 35)).grown G7 (fun q hq => by have := (HO7.out.lt _ hq).1; omega)
        have G8 : w.grownBy w7 (some g) := by
          obtain ⟨L9, -, h1, -⟩ := HO7.out.row
          exact grown_own (grown_alloc G (.cells _ 35)) (World.ownsRow.alloc h1 _) (Nat.le_refl _) G7
        clear R G G7 HO7 O7
        go_roundw
        case rel => exact ⟨i + 1, ks, M ++ [t], by go_num, by omega, by have := HML.out; simp; omega, by rw [lastK_snoc], R7, O8, G8, (fun x hx => by
          rcases List.mem_append.1 hx with hx | hx
          · exact HMR.out x hx
          · rw [List.mem_singleton.1 hx]
            exact HRT.out (by trivial)), fun h => absurd (by trivial) h, fun _ => HS2.out⟩
        case measure => simp [RowKit.intOf]; omega
    · have him2 : i = m := by omega
      subst him2
      by_cases hy : y1 = 0
      case neg =>
        have hyn : (y1 != 0) = true := by simp [hy]
        have HX : Hid (pPage L k y = ([], kk, y1)) := Lib.hid (by rw [HE1.out hy, (HY1.out hy).1])
        have HY := Lib.hid hy
        clear hy
        go_wp2_with fail
        refine (reader_Why _ g A n c L kk y1 R).mono ?_
        rintro x w9 ⟨rfl, rfl⟩
        go_wp2_with fail
        go_ret
        refine ⟨_, rfl, ?_, ⟨kk, fun _ => ?_, ?_⟩, G⟩
        · rw [HX.out, if_neg HY.out]
          exact OwnM.nil_ _ _ _
        · rw [HX.out]
        · rw [HX.out]
          exact R
      subst hy
      have hyn : ((0 : Int) != 0) = false := rfl
      have HX : Hid (pPage L k y = (M, kk, 0)) := Lib.hid (by rw [HE0.out (by trivial), HY0.out (by trivial), Nat.sub_self]; rfl)
      go_wp2_with fail
      refine (reader_Why _ g A n c L kk 0 R).mono ?_
      rintro x w9 ⟨rfl, rfl⟩
      go_wp2_with fail
      go_ret
      refine ⟨_, rfl, ?_, ⟨kk, fun _ => ?_, ?_⟩, G⟩
      · rw [HX.out, if_pos rfl]
        exact HO.out
      · rw [HX.out]
      · rw [HX.out]
        exact R
end Go.Proofs.YthbhbechemnidaaDoor

namespace Go.Proofs.YthbhbechemnidaaDoor
open Go.RowKit Go.Sort

def muAB : Mut := ⟨1, 1, ⟨#[97, 98]⟩, ⟨#[]⟩, ⟨#[]⟩, 0, (1, 0, 0), []⟩
def muAC : Mut := ⟨1, 1, ⟨#[97, 99]⟩, ⟨#[]⟩, ⟨#[]⟩, 0, (1, 0, 0), []⟩
theorem keyB_ab : keyB ⟨#[97, 98]⟩ = true := by decide +kernel
theorem keyB_ac : keyB ⟨#[97, 99]⟩ = true := by decide +kernel
theorem valB_00 : valB ⟨#[]⟩ = true := by decide +kernel
theorem muAB_rt : MutRt muAB := ⟨by decide, keyB_ab, ⟨by decide, fun k h => absurd h (Nat.not_lt_zero _)⟩, by decide, by decide, fun h => absurd rfl h, fun h => absurd rfl h, valB_00, fun h => absurd h (by decide), fun _ => rfl, .inl ⟨rfl, rfl, by decide, by decide⟩⟩
theorem muAC_rt : MutRt muAC := ⟨by decide, keyB_ac, ⟨by decide, fun k h => absurd h (Nat.not_lt_zero _)⟩, by decide, by decide, fun h => absurd rfl h, fun h => absurd rfl h, valB_00, fun h => absurd h (by decide), fun _ => rfl, .inl ⟨rfl, rfl, by decide, by decide⟩⟩
theorem cmp_abac : cmpMem muAB muAC = -1 := by
  have h0 : cmpT muAB.key muAC.key = -1 := by
    unfold cmpT
    rw [ByteArray.toList_eq, ByteArray.toList_eq]
    rfl
  unfold cmpMem
  rw [h0]
  rfl
theorem pg_two : PgOk [muAB, muAC] := by
  refine ⟨fun m hm => ?_, List.pairwise_cons.2 ⟨fun b hb => ?_, List.pairwise_singleton _ _⟩⟩
  · rcases List.mem_cons.1 hm with rfl | hm
    · exact muAB_rt
    · rw [List.mem_singleton.1 hm]; exact muAC_rt
  · rw [List.mem_singleton.1 hb, cmp_abac]
    decide
theorem reads_noP (w : World) (B size : Nat) : Reads w B size none 0 [] := ⟨by simp, fun h => absurd h (Nat.lt_irrefl 0)⟩
theorem below_of_nilP {w w' : World} (h : w.grownBy w' (Value.ownBlock (.slice none 0 0))) : Below w.heap.size w w' := ⟨h.os, h.tape, h.output, h.size, fun k hk => h.block k hk (by simp [Value.ownBlock])⟩
theorem reads_twoP {w' : World} {g : Nat} {e1 e2 : MutS} {cs : Array Value} (hcs : cs = (mutL e1 ++ mutL e2).toArray) (hb : Blk w' g 35 cs) : Reads w' w'.heap.size 10 (some ⟨g, 0, none⟩) 2 ([e1, e2].flatMap mutL) := by
  subst hcs
  refine ⟨rfl, fun _ => ⟨_, rfl, hb.lt, fun j u hu => ?_⟩⟩
  have := hb.cell j
  rw [add_lit, Nat.zero_add, this]
  simpa using hu
theorem cmpI_selfP (a : Int) : cmpI a a = 0 := by unfold cmpI; simp
theorem cmp3_selfP (s : Int × Int × Int) : cmp3 s s = 0 := by unfold cmp3 cmpS or3; simp [cmpI_selfP]
theorem cmpT_selfP (a : ByteArray) : cmpT a a = 0 := (cmpT_zero a a).2 rfl
theorem cmpR_selfP : ∀ l : List (Int × Int × Int), cmpR l l = 0
  | [] => rfl
  | a :: l => by
    show (if cmp3 a a = 0 then cmpR l l else cmp3 a a) = 0
    rw [if_pos (cmp3_selfP a), cmpR_selfP l]
theorem cmpM_selfP (m : Mut) : cmpM m m = 0 := by
  unfold cmpM
  rw [cmp3_selfP, cmpI_selfP, cmpI_selfP, cmpT_selfP, cmpT_selfP, cmpT_selfP, cmpI_selfP, cmpR_selfP]
  rfl
theorem sameM_selfP (M : List Mut) : sameM M M = true := by
  unfold sameM
  rw [decide_eq_true rfl, Bool.true_and, List.all_eq_true]
  intro p hp
  obtain ⟨i, hi, rfl⟩ := List.mem_iff_getElem.1 hp
  rw [List.getElem_zip, cmpM_selfP]
  rfl
/-- A page that was put, as the only thing in the reader, is read. -/
theorem page_whole (M : List Mut) (h : PgOk M) (hl : M.length ≤ 8) : pPage (pgPut M) 0 0 = (M, (pgPut M).length, 0) := by
  have := whole_page M h hl [] []
  simpa using this
theorem pgPut_len (M : List Mut) (h : ∀ m ∈ M, MutRt m) (hl : M.length ≤ 8) : (pgPut M).length ≤ 300000000 := by
  have h1 := body_len M ⟨#[]⟩ valid_nil (Nat.zero_le _) h
  have h2 := wput_length M.length (by omega)
  unfold pgPut
  rw [List.length_append]
  omega

set_option maxRecDepth 100000 in
set_option maxHeartbeats 4000000 in
theorem alive15 (w : World) (hT : Tabs w) : Calls Tryd.prog 50 #[] w fun e w' => e = .returned (.bool true) ∧ Below w.heap.size w w' := by
  have BL := Blk.new w 35 (mutL ⟨muAB, none, 0, 0⟩ ++ mutL ⟨muAC, none, 0, 0⟩).toArray
  have hB : Below w.heap.size w (w.alloc (.cells (mutL ⟨muAB, none, 0, 0⟩ ++ mutL ⟨muAC, none, 0, 0⟩).toArray 35)) := (Below.refl _ _).alloc (Nat.le_refl _) _
  have HT := Lib.hid hT
  clear hT
  go_enter Tryd.func50, Tryd.ntmps50
  go_wp2_with fail
  change Calls _ _ _ (w.alloc (.cells (mutL ⟨muAB, none, 0, 0⟩ ++ mutL ⟨muAC, none, 0, 0⟩).toArray 35)) _
  have RL := reads_twoP rfl BL
  generalize w.alloc (.cells (mutL ⟨muAB, none, 0, 0⟩ ++ mutL ⟨muAC, none, 0, 0⟩).toArray 35) = W at *
  have RM : RdM W (some ⟨w.heap.size, 0, none⟩) 2 [muAB, muAC] := ⟨[⟨muAB, none, 0, 0⟩, ⟨muAC, none, 0, 0⟩], rfl, RL, fun e he => by
    rcases List.mem_cons.1 he with rfl | he
    · exact ⟨reads_noP _ _ _, fun _ _ => by simp⟩
    · rw [List.mem_singleton.1 he]; exact ⟨reads_noP _ _ _, fun _ _ => by simp⟩, fun e he => by
    rcases List.mem_cons.1 he with rfl | he
    · exact ⟨by decide, fun _ => rfl⟩
    · rw [List.mem_singleton.1 he]; exact ⟨by decide, fun _ => rfl⟩⟩
  have CP := Lib.hid (page_Put W W W.heap.size (.slice none 0 0) [] (some ⟨w.heap.size, 0, none⟩) 2 2 [muAB, muAC] (Own.nil_ _ _) (Nat.le_refl _) (Nat.le_refl _) (Below.refl _ _) RM pg_two.rt (by decide) (by simp))
  have HRM := Lib.hid RM
  clear RM RL BL
  refine CP.out.mono ?_
  clear CP
  rintro x w2 ⟨v2, rfl, O2, G2, -⟩
  rw [List.nil_append] at O2
  have b2 := below_of_nilP G2
  have HRM2 := Lib.hid (HRM.out.below b2)
  have hlp := pgPut_len [muAB, muAC] pg_two.rt (by decide)
  replace hB := hB.trans (b2.mono hB.size)
  clear b2 G2 HRM
  obtain ⟨A2, c2, rfl, hc2, R2⟩ := O2.reads
  obtain ⟨n2, hn2⟩ : ∃ n, (pgPut [muAB, muAC]).length = n := ⟨_, rfl⟩
  have HP := page_whole [muAB, muAC] pg_two (by decide)
  rw [hn2] at R2 hc2 hlp HP ⊢
  have HR2 := Lib.hid R2
  have HP := Lib.hid HP
  clear O2 R2 hn2
  go_wp2_with fail
  refine (wire_New A2 n2 c2 w2).mono ?_
  rintro y u2 ⟨rfl, rfl⟩
  have R : Rd (w2.alloc (.cells #[.slice A2 n2 c2, .int .i64 0, .int .i64 0] 103)) w2.heap.size A2 n2 c2 (pgPut [muAB, muAC]) 0 0 := ⟨Blk.new _ _ _, HR2.out.alloc (Nat.le_refl _) _, Nat.zero_le _, by omega, hc2⟩
  have ba : Below w2.heap.size w2 (w2.alloc (.cells #[.slice A2 n2 c2, .int .i64 0, .int .i64 0] 103)) := (Below.refl _ _).alloc (Nat.le_refl _) _
  have hgw := hB.size
  replace hB := hB.trans (ba.mono hB.size)
  have HK4 : Hid (∀ w4 : World, (w2.alloc (.cells #[.slice A2 n2 c2, .int .i64 0, .int .i64 0] 103)).grownBy w4 (some w2.heap.size) → RdM w4 (some ⟨w.heap.size, 0, none⟩) 2 [muAB, muAC]) := Lib.hid (fun w4 G => HRM2.out.below (Below.grown ba G ba.size (fun q hq => by injection hq with hq; omega)))
  clear ba HRM2 HR2
  generalize w2.alloc (.cells #[.slice A2 n2 c2, .int .i64 0, .int .i64 0] 103) = W3 at *
  generalize w2.heap.size = g at *
  have CG := page_Get W3 (HT.out.in_ (Nat.le_refl _) hB) g A2 n2 c2 _ 0 0 R
  rw [HP.out] at CG
  have CG := Lib.hid CG
  have hgl := R.blk.lt
  clear R
  go_wp2_with fail
  refine CG.out.mono ?_
  clear CG
  rintro x w4 ⟨v4, rfl, O4, ⟨k', hk', R4⟩, G4⟩
  rw [if_pos rfl] at O4
  replace hB := Below.grown hB G4 hB.size (fun q hq => by injection hq with hq; omega)
  obtain ⟨A4, c4, rfl, -, -, R5⟩ := O4.rd
  have RM4 : RdM w4 (some ⟨w.heap.size, 0, none⟩) 2 [muAB, muAC] := HK4.out w4 G4
  have CS := ref07_Same A4 (some ⟨w.heap.size, 0, none⟩) 2 c4 2 2 [muAB, muAC] [muAB, muAC] w4 R5 RM4 (by decide)
  rw [sameM_selfP] at CS
  have CS := Lib.hid CS
  have hs4 := hB.size
  clear O4 G4 R5 RM4 HK4
  go_wp2_with fail
  refine CS.out.mono ?_
  clear CS
  rintro x w5 ⟨rfl, b5⟩
  have R5 := R4.below b5
  replace hB := hB.trans (b5.mono hs4)
  clear b5 R4
  go_wp2_with fail
  refine (reader_Why _ g A2 n2 c2 _ k' 0 R5).mono ?_
  rintro x w9 ⟨rfl, rfl⟩
  go_wp2_with fail
  go_ret
  exact ⟨rfl, hB⟩
end Go.Proofs.YthbhbechemnidaaDoor
