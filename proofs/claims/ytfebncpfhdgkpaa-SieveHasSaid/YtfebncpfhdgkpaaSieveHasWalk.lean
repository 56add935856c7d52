/- The walk of the law SieveHas: it returns true, and nothing that was there ahead of the call has turned. -/
import Derived.Test.YtfebncpfhdgkpaaCarry
import Derived.Test.YtfebncpfhdgkpaaSieveN
import Derived.Test.YtfebncpfhdgkpaaSieveReadsWalk
namespace Go.Proofs.Ytfebncpfhdgkpaa
open Go.RowKit Go.Sort

theorem mayB_mono {m m' : List Bool} {R : List Nat} (hl : m'.length = m.length) (h : ∀ i, m.getD i false = true → m'.getD i false = true) (hm : mayB m R = true) : mayB m' R = true := by
  unfold mayB at *
  rw [Bool.or_eq_true] at *
  rcases hm with hm | hm
  · left
    have : m = [] := by simpa using hm
    subst this
    have : m' = [] := List.eq_nil_of_length_eq_zero hl
    rw [this]; rfl
  · right
    rw [hl]
    rw [List.all_eq_true] at *
    exact fun p hp => h p (hm p hp)
theorem foldl_keep : ∀ (RS : List (List Nat)) (m : List Bool) (i : Nat), m.getD i false = true → (RS.foldl addKey m).getD i false = true
  | [], _, _, h => h
  | R :: RS, m, i, h => foldl_keep RS (addKey m R) i (setAll_keep _ m i h)
theorem mayB_in : ∀ (RS : List (List Nat)) (m : List Bool) (R : List Nat), R ∈ RS → mayB (RS.foldl addKey m) R = true
  | [], _, _, h => absurd h (by simp)
  | Q :: RS, m, R, h => by
    rw [List.foldl_cons]
    rcases List.mem_cons.1 h with h | h
    · subst h
      exact mayB_mono (foldl_addKey_len RS (addKey m R)) (fun i => foldl_keep RS (addKey m R) i) (mayB_addKey m R)
    · exact mayB_in RS (addKey m Q) R h
theorem mayB_of (N : Nat) (K : List ByteArray) (s : ByteArray) (h : s ∈ K) : mayB (ofB N (keyRunes K)) (rest s 0) = true :=
  mayB_in _ _ _ (List.mem_map.2 ⟨s, h, rfl⟩)
theorem bit_orL (F G : List Bool) (N p : Nat) (hF : F.length = 8 * N) (hG : G.length = 8 * N) (h : F.getD p false = true ∨ G.getD p false = true) : (ub (orL (pk F) (pk G))).getD p false = true := by
  have lF : (pk F).length = N := by rw [pk_len, hF]; omega
  have lG : (pk G).length = N := by rw [pk_len, hG]; omega
  have hp : p < 8 * N := by
    rcases Nat.lt_or_ge p (8 * N) with h1 | h1
    · exact h1
    · rcases h with h | h
      · rw [List.getD_eq_getElem?_getD, List.getElem?_eq_none (by omega)] at h; cases h
      · rw [List.getD_eq_getElem?_getD, List.getElem?_eq_none (by omega)] at h; cases h
  have hl : (orL (pk F) (pk G)).length = N := by rw [orL_len _ _ (by omega), lF]
  rw [ub_get _ _ (by omega)]
  have hk : p / 8 < N := by omega
  have h1 := orL_get (pk F) (pk G) (p / 8) (by omega) (by omega)
  rw [List.getD_eq_getElem?_getD, h1, Option.getD_some, UInt8.toNat_ofNat', Nat.mod_eq_of_lt (or_lt _ _)]
  have e1 : (pk F)[p / 8]'(by omega) = UInt8.ofNat (nb F (p / 8)) := by
    have := pk_get F (p / 8) (by omega)
    rw [List.getElem?_eq_getElem (by omega)] at this
    injection this
  have e2 : (pk G)[p / 8]'(by omega) = UInt8.ofNat (nb G (p / 8)) := by
    have := pk_get G (p / 8) (by omega)
    rw [List.getElem?_eq_getElem (by omega)] at this
    injection this
  rw [e1, e2, UInt8.toNat_ofNat', UInt8.toNat_ofNat', Nat.mod_eq_of_lt (nb_lt _ _), Nat.mod_eq_of_lt (nb_lt _ _)]
  rw [← Nat.testBit_eq_decide_div_mod_eq, Nat.testBit_or, Nat.testBit_eq_decide_div_mod_eq, Nat.testBit_eq_decide_div_mod_eq, nb_bit, nb_bit]
  rcases h with h | h <;> rw [h] <;> simp [bw]
theorem mayB_or (F G : List Bool) (N : Nat) (R : List Nat) (hF : F.length = 8 * N) (hG : G.length = 8 * N) (h : mayB F R = true ∨ mayB G R = true) : mayB (ub (orL (pk F) (pk G))) R = true := by
  have lF : (pk F).length = N := by rw [pk_len, hF]; omega
  have lG : (pk G).length = N := by rw [pk_len, hG]; omega
  have hl : (ub (orL (pk F) (pk G))).length = 8 * N := by rw [ub_len, orL_len _ _ (by omega), lF]
  rcases h with h | h
  · exact mayB_mono (by omega) (fun i hi => bit_orL F G N i hF hG (.inl hi)) h
  · exact mayB_mono (by omega) (fun i hi => bit_orL F G N i hF hG (.inr hi)) h

set_option maxRecDepth 100000 in
set_option maxHeartbeats 8000000 in
theorem sieve_has_walk (w : World) (A : Option Addr) (n c : Nat) (Ka : List ByteArray) (_ : n ≤ c) (_ : c ≤ maxLen) (_ : Ka.length = n) (hr : Reads w w.heap.size 1 A n (Ka.map Value.string)) (hK : ∀ s ∈ Ka, s.size ≤ maxLen) (_ : A = none → c = 0)
    (A' : Option Addr) (n' c' : Nat) (Kb : List ByteArray) (_ : n' ≤ c') (_ : c' ≤ maxLen) (_ : Kb.length = n') (hr' : Reads w w.heap.size 1 A' n' (Kb.map Value.string)) (hK' : ∀ s ∈ Kb, s.size ≤ maxLen) (_ : A' = none → c' = 0) :
    Calls Try.prog 8 #[.slice A n c, .slice A' n' c'] w fun e w' => e = .returned (.bool true) ∧ Below w.heap.size w w' := by
  have hn : n ≤ 9223372036854775807 := by
    have h1 : c ≤ maxLen := by assumption
    unfold maxLen at h1
    omega
  have hn' : n' ≤ 9223372036854775807 := by
    have h1 : c' ≤ maxLen := by assumption
    unfold maxLen at h1
    omega
  have HG1 := Lib.hid (law14_great A n c Ka w hr hn (fun s h => by have := hK s h; unfold maxLen at this; omega))
  have HG2 := Lib.hid (law14_great A' n' c' Kb w hr' hn' (fun s h => by have := hK' s h; unfold maxLen at this; omega))
  have HRa := Lib.hid hr
  have HRb := Lib.hid hr'
  have HLa : Hid (Ka.length = n) := Lib.hid (by assumption)
  have HLb : Hid (Kb.length = n') := Lib.hid (by assumption)
  clear hK hK' hr hr'
  go_enter Try.func8, Try.ntmps8
  go_wp2_with fail
  refine HG1.out.mono ?_
  clear HG1
  rintro e w1 ⟨rfl, gg, rfl, hg⟩
  cases gg
  case true =>
    clear hg
    go_wp2_with fail
    go_ret
    exact ⟨rfl, Below.refl _ _⟩
  obtain ⟨h3, h5⟩ := hg rfl
  have H5 := Lib.hid h5
  clear hg h5
  go_wp2_with fail
  refine HG2.out.mono ?_
  clear HG2
  rintro e w1 ⟨rfl, gg, rfl, hg⟩
  cases gg
  case true =>
    clear hg
    go_wp2_with fail
    go_ret
    exact ⟨rfl, Below.refl _ _⟩
  obtain ⟨h4, h6⟩ := hg rfl
  clear hg h6
  have hO1 := Lib.hid (sieve_Of A n c Ka w HRa.out (by omega))
  go_wp2_with fail
  refine hO1.out.mono ?_
  clear hO1
  rintro e w1 ⟨v1, rfl, O1, hB⟩
  have hO2 := Lib.hid (sieve_Of A' n' c' Kb w1 ((HRb.out.below hB).more hB.size) (by omega))
  go_wp2_with fail
  refine hO2.out.mono ?_
  clear hO2
  rintro e w2 ⟨v2, rfl, O2, b2⟩
  replace O1 := O1.below b2
  replace hB := hB.trans (b2.mono hB.size)
  clear b2
  have hN1 : fN n ≤ 1000 := by unfold fN; omega
  have hN2 : fN n' ≤ 1000 := by unfold fN; omega
  have HFm : Hid (∀ s ∈ Ka, mayB (ofB (fN n) (keyRunes Ka)) (rest s 0) = true) := Lib.hid (fun s h => mayB_of _ _ s h)
  have HGm : Hid (∀ s ∈ Kb, mayB (ofB (fN n') (keyRunes Kb)) (rest s 0) = true) := Lib.hid (fun s h => mayB_of _ _ s h)
  have HFl : Hid ((ofB (fN n) (keyRunes Ka)).length = 8 * fN n) := Lib.hid (ofB_len _ _)
  have HGl : Hid ((ofB (fN n') (keyRunes Kb)).length = 8 * fN n') := Lib.hid (ofB_len _ _)
  generalize ofB (fN n) (keyRunes Ka) = F at *
  generalize ofB (fN n') (keyRunes Kb) = G at *
  generalize fN n = N at *
  generalize fN n' = N2 at *
  have HPl : Hid ((pk F).length = N) := Lib.hid (by rw [pk_len, HFl.out]; omega)
  have HPl2 : Hid ((pk G).length = N2) := Lib.hid (by rw [pk_len, HGl.out]; omega)
  obtain ⟨A2, c2, rfl, _, RF⟩ := O1.reads
  obtain ⟨A3, c3, rfl, _, RG⟩ := O2.reads
  rw [HPl.out] at RF ⊢
  rw [HPl2.out] at RG ⊢
  clear O1 O2
  have B5 := Blk.new w2 61 #[.slice A2 N c2]
  have le_RF := Nat.le_refl w2.heap.size
  have le_RG := Nat.le_refl w2.heap.size
  have hg5 := hB.size
  replace RF := RF.alloc le_RF (.cells #[.slice A2 N c2] 61)
  replace le_RF := Nat.le_trans le_RF (le_alloc _ (.cells #[.slice A2 N c2] 61))
  replace RG := RG.alloc le_RG (.cells #[.slice A2 N c2] 61)
  replace le_RG := Nat.le_trans le_RG (le_alloc _ (.cells #[.slice A2 N c2] 61))
  replace hB := hB.alloc hB.size (.cells #[.slice A2 N c2] 61)
  have B6 := Blk.new (w2.alloc (.cells #[.slice A2 N c2] 61)) 61 #[.slice A3 N2 c3]
  replace RF := RF.alloc le_RF (.cells #[.slice A3 N2 c3] 61)
  replace le_RF := Nat.le_trans le_RF (le_alloc _ (.cells #[.slice A3 N2 c3] 61))
  replace RG := RG.alloc le_RG (.cells #[.slice A3 N2 c3] 61)
  replace le_RG := Nat.le_trans le_RG (le_alloc _ (.cells #[.slice A3 N2 c3] 61))
  replace hB := hB.alloc hB.size (.cells #[.slice A3 N2 c3] 61)
  replace B5 := B5.alloc (.cells #[.slice A3 N2 c3] 61)
  rw [alloc_size] at B6
  have cq0 := B5.cell
  have cq1 := B6.cell
  go_wp2_with fail
  clear cq0 cq1
  generalize (w2.alloc (.cells #[.slice A2 N c2] 61)).alloc (.cells #[.slice A3 N2 c3] 61) = w3 at *
  have hw2 := B6.lt
  generalize w2.heap.size = g5 at *
  have HJ := Lib.hid (sieve_Join A2 N c2 (pk F) A3 N2 c3 (pk G) w3 (RF.more le_RF) (RG.more le_RG) (by omega) (by omega))
  refine HJ.out.mono ?_
  clear HJ
  rintro e w4 ⟨v4, rfl, O7, b4⟩
  replace RF := RF.below (b4.mono le_RF)
  replace le_RF := Nat.le_trans le_RF b4.size
  replace RG := RG.below (b4.mono le_RG)
  replace le_RG := Nat.le_trans le_RG b4.size
  replace hB := hB.trans (b4.mono hB.size)
  replace B5 := B5.below b4 B5.lt
  replace B6 := B6.below b4 B6.lt
  clear b4
  by_cases hNN : N = N2
  · subst hNN
    rw [if_pos rfl] at O7
    rw [show decide (N = N) = true by simp]
    obtain ⟨A7, c7, rfl, _, RH⟩ := O7.reads
    rw [orL_len _ _ (by rw [HPl.out, HPl2.out]), HPl.out] at RH ⊢
    obtain ⟨H, hH⟩ : ∃ H, ub (orL (pk F) (pk G)) = H := ⟨_, rfl⟩
    have hpH : orL (pk F) (pk G) = pk H := by rw [← hH, pk_ub]
    have HHl : Hid (H.length = 8 * N) := Lib.hid (by rw [← hH, ub_len, orL_len _ _ (by rw [HPl.out, HPl2.out]), HPl.out])
    have HHm : Hid (∀ s, s ∈ Ka ∨ s ∈ Kb → mayB H (rest s 0) = true) := Lib.hid (by
      intro s hs
      rw [← hH]
      rcases hs with hs | hs
      · exact mayB_or F G N _ HFl.out HGl.out (.inl (HFm.out s hs))
      · exact mayB_or F G N _ HFl.out HGl.out (.inr (HGm.out s hs)))
    rw [hpH] at RH
    clear hH hpH
    clear O7
    have le_RH := Nat.le_refl w4.heap.size
    have B7 := Blk.new w4 61 #[.slice A7 N c7]
    replace RF := RF.alloc le_RF (.cells #[.slice A7 N c7] 61)
    replace le_RF := Nat.le_trans le_RF (le_alloc _ (.cells #[.slice A7 N c7] 61))
    replace RG := RG.alloc le_RG (.cells #[.slice A7 N c7] 61)
    replace le_RG := Nat.le_trans le_RG (le_alloc _ (.cells #[.slice A7 N c7] 61))
    replace hB := hB.alloc hB.size (.cells #[.slice A7 N c7] 61)
    replace B5 := B5.alloc (.cells #[.slice A7 N c7] 61)
    replace B6 := B6.alloc (.cells #[.slice A7 N c7] 61)
    replace RH := RH.alloc le_RH (.cells #[.slice A7 N c7] 61)
    replace le_RH := Nat.le_trans le_RH (le_alloc _ (.cells #[.slice A7 N c7] 61))
    have cq0 := B5.cell
    go_wp2_with fail
    clear cq0
    generalize w4.alloc (.cells #[.slice A7 N c7] 61) = w5 at *
    generalize w4.heap.size = g7 at *
    have HP := Lib.hid (sieve_Put w5 w5.heap.size (.slice none 0 0) [] A2 N c2 (pk F) (Own.nil_ _ _) (Nat.le_refl _) (by simp; omega) (RF.more le_RF))
    refine HP.out.mono ?_
    clear HP
    rintro e w6 ⟨v6, rfl, O6, G6, _⟩
    have b6 : Below w5.heap.size w5 w6 := Below.grown (Below.refl _ _) G6 (Nat.le_refl _) (fun q hq => by simp [Value.ownBlock] at hq)
    clear G6
    replace RF := RF.below (b6.mono le_RF)
    replace le_RF := Nat.le_trans le_RF b6.size
    replace RG := RG.below (b6.mono le_RG)
    replace le_RG := Nat.le_trans le_RG b6.size
    replace hB := hB.trans (b6.mono hB.size)
    replace B5 := B5.below b6 B5.lt
    replace B6 := B6.below b6 B6.lt
    replace RH := RH.below (b6.mono le_RH)
    replace le_RH := Nat.le_trans le_RH b6.size
    replace B7 := B7.below b6 B7.lt
    clear b6
    obtain ⟨A8, c8, rfl, hc8, R8⟩ := O6.reads
    rw [List.nil_append] at R8 hc8 ⊢
    obtain ⟨k8, hk8⟩ : ∃ k, (wtext (pk F)).length = k := ⟨_, rfl⟩
    have hk8b : k8 ≤ 100000 := by
      have h9 := HPl.out
      have hwl := wput_length (pk F).length (by omega)
      have : (wtext (pk F)).length = (wput (pk F).length).length + (pk F).length := by unfold wtext; simp
      omega
    rw [hk8] at R8 hc8 ⊢
    clear O6 hk8
    go_wp2_with fail
    refine (wire_New A8 k8 c8 w6).mono ?_
    rintro e w7 ⟨rfl, rfl⟩
    have RD : Rd (w6.alloc (.cells #[.slice A8 k8 c8, .int .i64 0, .int .i64 0] 114)) w6.heap.size A8 k8 c8 (wtext (pk F)) 0 0 := ⟨Blk.new _ _ _, (R8.alloc (Nat.le_refl _) _), Nat.zero_le _, by omega, hc8⟩
    clear R8
    have l5 := B5.lt
    have l7 := B7.lt
    have lF := le_RF
    have lH := le_RH
    have lB := hB.size
    replace RF := RF.alloc le_RF (.cells #[.slice A8 k8 c8, .int .i64 0, .int .i64 0] 114)
    replace le_RF := Nat.le_trans le_RF (le_alloc _ (.cells #[.slice A8 k8 c8, .int .i64 0, .int .i64 0] 114))
    replace RG := RG.alloc le_RG (.cells #[.slice A8 k8 c8, .int .i64 0, .int .i64 0] 114)
    replace le_RG := Nat.le_trans le_RG (le_alloc _ (.cells #[.slice A8 k8 c8, .int .i64 0, .int .i64 0] 114))
    replace hB := hB.alloc hB.size (.cells #[.slice A8 k8 c8, .int .i64 0, .int .i64 0] 114)
    replace B5 := B5.alloc (.cells #[.slice A8 k8 c8, .int .i64 0, .int .i64 0] 114)
    replace B6 := B6.alloc (.cells #[.slice A8 k8 c8, .int .i64 0, .int .i64 0] 114)
    replace RH := RH.alloc le_RH (.cells #[.slice A8 k8 c8, .int .i64 0, .int .i64 0] 114)
    replace le_RH := Nat.le_trans le_RH (le_alloc _ (.cells #[.slice A8 k8 c8, .int .i64 0, .int .i64 0] 114))
    replace B7 := B7.alloc (.cells #[.slice A8 k8 c8, .int .i64 0, .int .i64 0] 114)
    generalize w6.alloc (.cells #[.slice A8 k8 c8, .int .i64 0, .int .i64 0] 114) = w7 at *
    generalize w6.heap.size = g9 at *
    have sq0 := cell_regrown (show w7.cell? ⟨g5, 0, none⟩ = some (.slice A2 N c2) by simpa using B5.cell 0)
    have sq1 := cell_regrown (show w7.cell? ⟨g5 + 1, 0, none⟩ = some (.slice A3 N c3) by simpa using B6.cell 0)
    have kq0 : ∀ d os, Calls Try.prog 43 #[.agg #[.slice A2 N c2]] (grow (redrawn w7 d) os) fun e w'' => e = .returned (.int .i64 ((8 * N : Nat) : Int)) ∧ ∃ p : Regrown, w'' = grow (redrawn w7 p.d) p.os := fun d os => Calls.regrown_of (by
      have bz := below_regrown w7 d os
      exact filter_Size A2 N c2 (grow (redrawn w7 d) os) (by omega))
    have kq1 : ∀ d os, Calls Try.prog 43 #[.agg #[.slice A3 N c3]] (grow (redrawn w7 d) os) fun e w'' => e = .returned (.int .i64 ((8 * N : Nat) : Int)) ∧ ∃ p : Regrown, w'' = grow (redrawn w7 p.d) p.os := fun d os => Calls.regrown_of (by
      have bz := below_regrown w7 d os
      exact filter_Size A3 N c3 (grow (redrawn w7 d) os) (by omega))
    go_upto_region 6 with fail
    refine wp_region_quiet_below (by kernel_rfl) (by kernel_rfl) ?_
    repeat (go_big_quiet_step (first | with_reducible exact kq0 _ _ | with_reducible exact kq1 _ _))
    refine wpQuiet_nil ?_
    intro _ hw'
    obtain ⟨⟨dq, osq⟩, hw''⟩ := hw'
    subst hw''
    have bq := below_regrown w7 dq osq
    clear sq0 sq1 kq0 kq1
    replace RF := RF.below (bq.mono le_RF)
    replace le_RF := Nat.le_trans le_RF bq.size
    replace RG := RG.below (bq.mono le_RG)
    replace le_RG := Nat.le_trans le_RG bq.size
    replace hB := hB.trans (bq.mono hB.size)
    replace B5 := B5.below bq B5.lt
    replace B6 := B6.below bq B6.lt
    replace RH := RH.below (bq.mono le_RH)
    replace le_RH := Nat.le_trans le_RH bq.size
    replace B7 := B7.below bq B7.lt
    replace RD := RD.below bq
    clear bq
    generalize grow (redrawn w7 dq) osq = w8 at *
    clear B6 RG
    have hG := sieve_Get w8 g9 A8 k8 c8 (wtext (pk F)) 0 0 RD
    have hrt : rText (wtext (pk F)) 65536 0 = (pk F, (wput (pk F).length).length + (pk F).length, 0) := by
      have h9 := HPl.out
      have := rText_put (pk F) [] 65536 (by omega) (by omega)
      rw [List.append_nil] at this
      exact this
    rw [List.drop_zero, hrt] at hG
    simp only [] at hG
    generalize (0 + ((wput (pk F).length).length + (pk F).length)) = kk at hG
    have HG := Lib.hid hG
    clear hG hrt RD
    go_wp2_with fail
    refine HG.out.mono ?_
    clear HG
    rintro e w9 ⟨A10, c10, rfl, RK, RD, G9⟩
    replace RF := RF.grown G9 le_RF (fun q hq => by injection hq with hq; omega)
    replace le_RF := Nat.le_trans le_RF G9.size
    replace hB := Below.grown hB G9 hB.size (fun q hq => by injection hq with hq; omega)
    replace B5 := B5.grown G9 (by have := B5.lt; simp; omega)
    replace RH := RH.grown G9 le_RH (fun q hq => by injection hq with hq; omega)
    replace le_RH := Nat.le_trans le_RH G9.size
    replace B7 := B7.grown G9 (by have := B7.lt; simp; omega)
    clear G9
    rw [HPl.out] at RK ⊢
    have le_RK := Nat.le_refl w9.heap.size
    have B10 := Blk.new w9 61 #[.slice A10 N c10]
    replace RF := RF.alloc le_RF (.cells #[.slice A10 N c10] 61)
    replace le_RF := Nat.le_trans le_RF (le_alloc _ (.cells #[.slice A10 N c10] 61))
    replace hB := hB.alloc hB.size (.cells #[.slice A10 N c10] 61)
    replace B5 := B5.alloc (.cells #[.slice A10 N c10] 61)
    replace RH := RH.alloc le_RH (.cells #[.slice A10 N c10] 61)
    replace le_RH := Nat.le_trans le_RH (le_alloc _ (.cells #[.slice A10 N c10] 61))
    replace B7 := B7.alloc (.cells #[.slice A10 N c10] 61)
    replace RK := RK.alloc le_RK (.cells #[.slice A10 N c10] 61)
    replace le_RK := Nat.le_trans le_RK (le_alloc _ (.cells #[.slice A10 N c10] 61))
    replace RD := RD.alloc (.cells #[.slice A10 N c10] 61)
    go_upto_region 9 with fail
    generalize w9.alloc (.cells #[.slice A10 N c10] 61) = w10 at *
    generalize w9.heap.size = g10 at *
    have sq0 := cell_regrown (show w10.cell? ⟨g5, 0, none⟩ = some (.slice A2 N c2) by simpa using B5.cell 0)
    have sq1 := cell_regrown (show w10.cell? ⟨g10, 0, none⟩ = some (.slice A10 N c10) by simpa using B10.cell 0)
    have kq0 : ∀ d os, Calls Try.prog 43 #[.agg #[.slice A2 N c2]] (grow (redrawn w10 d) os) fun e w'' => e = .returned (.int .i64 ((8 * N : Nat) : Int)) ∧ ∃ p : Regrown, w'' = grow (redrawn w10 p.d) p.os := fun d os => Calls.regrown_of (by
      have bz := below_regrown w10 d os
      exact filter_Size A2 N c2 (grow (redrawn w10 d) os) (by omega))
    have kq1 : ∀ d os, Calls Try.prog 43 #[.agg #[.slice A10 N c10]] (grow (redrawn w10 d) os) fun e w'' => e = .returned (.int .i64 ((8 * N : Nat) : Int)) ∧ ∃ p : Regrown, w'' = grow (redrawn w10 p.d) p.os := fun d os => Calls.regrown_of (by
      have bz := below_regrown w10 d os
      exact filter_Size A10 N c10 (grow (redrawn w10 d) os) (by omega))
    have kq2 : ∀ d os, Calls Try.prog 45 #[.pointer (some ⟨g9, 0, none⟩)] (grow (redrawn w10 d) os) fun e w'' => e = .returned (.int .i64 0) ∧ ∃ p : Regrown, w'' = grow (redrawn w10 p.d) p.os := fun d os => Calls.regrown_of (by
      have bz := below_regrown w10 d os
      exact calls_keep (reader_Why (grow (redrawn w10 d) os) g9 A8 k8 c8 _ _ 0 (RD.below bz)))
    go_upto_region 9 with fail
    refine wp_region_quiet_below (by kernel_rfl) (by kernel_rfl) ?_
    repeat (go_big_quiet_step (first | with_reducible exact kq0 _ _ | with_reducible exact kq1 _ _ | with_reducible exact kq2 _ _))
    refine wpQuiet_nil ?_
    intro _ hw'
    obtain ⟨⟨dq, osq⟩, hw''⟩ := hw'
    subst hw''
    have bq := below_regrown w10 dq osq
    clear sq0 sq1 kq0 kq1 kq2
    replace RF := RF.below (bq.mono le_RF)
    replace le_RF := Nat.le_trans le_RF bq.size
    replace hB := hB.trans (bq.mono hB.size)
    replace B5 := B5.below bq B5.lt
    replace RH := RH.below (bq.mono le_RH)
    replace le_RH := Nat.le_trans le_RH bq.size
    replace B7 := B7.below bq B7.lt
    replace RK := RK.below (bq.mono le_RK)
    replace le_RK := Nat.le_trans le_RK bq.size
    replace RD := RD.below bq
    replace B10 := B10.below bq B10.lt
    clear bq
    generalize grow (redrawn w10 dq) osq = W at *
    clear RD
    go_wp2_with fail
    have hbW := Below.refl W.heap.size W
    go_loopw [11] (fun v11 wr => ∃ i : Nat, v11 = .int .i64 i ∧ i ≤ n ∧ Below W.heap.size W wr ∧ Below w.heap.size w wr) (fun v11 _ => n - (intOf v11).toNat)
    case atStart => exact ⟨0, rfl, Nat.zero_le _, hbW, hB⟩
    case round =>
      clear hB hbW
      obtain ⟨i, rfl, hin, hbW, hB⟩ := hrel
      by_cases hi : i < n
      · obtain ⟨b, off, rfl, hb, hc⟩ := Reads.form (HRa.out.below hB) (by omega)
        have hil : i < Ka.length := by have := HLa.out; omega
        have q0 := hc i (Value.string Ka[i]) (by simp [hil])
        have hmF := HFm.out Ka[i] (List.getElem_mem hil)
        have hmH := HHm.out Ka[i] (.inl (List.getElem_mem hil))
        obtain ⟨s, hs⟩ : ∃ s, Ka[i] = s := ⟨_, rfl⟩
        rw [hs] at q0 hmF hmH
        clear hc hs
        have sq0 := cell_regrown (show wr.cell? ⟨b, off + i, none⟩ = some (.string s) by simpa using q0)
        have sq1 := cell_regrown (show wr.cell? ⟨g5, 0, none⟩ = some (.slice A2 N c2) by simpa using (B5.below hbW B5.lt).cell 0)
        have sq2 := cell_regrown (show wr.cell? ⟨g10, 0, none⟩ = some (.slice A10 N c10) by simpa using (B10.below hbW B10.lt).cell 0)
        have sq3 := cell_regrown (show wr.cell? ⟨g7, 0, none⟩ = some (.slice A7 N c7) by simpa using (B7.below hbW B7.lt).cell 0)
        have kq0 : ∀ d os, Calls Try.prog 46 #[.agg #[.slice A2 N c2], .string s] (grow (redrawn wr d) os) fun e w'' => e = .returned (.bool true) ∧ ∃ p : Regrown, w'' = grow (redrawn wr p.d) p.os := fun d os => Calls.regrown_of (by
          have bz := below_regrown wr d os
          exact calls_val (congrArg Value.bool hmF) (filter_May A2 N c2 F s (grow (redrawn wr d) os) ((RF.below (hbW.trans (bz.mono hbW.size) |>.mono le_RF)).more (Nat.le_trans le_RF (hbW.trans (bz.mono hbW.size)).size)) HFl.out (by omega)))
        have kq1 : ∀ d os, Calls Try.prog 46 #[.agg #[.slice A10 N c10], .string s] (grow (redrawn wr d) os) fun e w'' => e = .returned (.bool true) ∧ ∃ p : Regrown, w'' = grow (redrawn wr p.d) p.os := fun d os => Calls.regrown_of (by
          have bz := below_regrown wr d os
          exact calls_val (congrArg Value.bool hmF) (filter_May A10 N c10 F s (grow (redrawn wr d) os) ((RK.below (hbW.trans (bz.mono hbW.size) |>.mono le_RK)).more (Nat.le_trans le_RK (hbW.trans (bz.mono hbW.size)).size)) HFl.out (by omega)))
        have kq2 : ∀ d os, Calls Try.prog 46 #[.agg #[.slice A7 N c7], .string s] (grow (redrawn wr d) os) fun e w'' => e = .returned (.bool true) ∧ ∃ p : Regrown, w'' = grow (redrawn wr p.d) p.os := fun d os => Calls.regrown_of (by
          have bz := below_regrown wr d os
          exact calls_val (congrArg Value.bool hmH) (filter_May A7 N c7 H s (grow (redrawn wr d) os) ((RH.below (hbW.trans (bz.mono hbW.size) |>.mono le_RH)).more (Nat.le_trans le_RH (hbW.trans (bz.mono hbW.size)).size)) HHl.out (by omega)))
        go_upto_region 14 with fail
        refine wp_region_quiet_below (by kernel_rfl) (by kernel_rfl) ?_
        repeat (go_big_quiet_step (first | with_reducible exact kq0 _ _ | with_reducible exact kq1 _ _ | with_reducible exact kq2 _ _))
        refine wpQuiet_nil ?_
        intro _ hw'
        obtain ⟨⟨dq, osq⟩, hw''⟩ := hw'
        subst hw''
        have bq := below_regrown wr dq osq
        clear sq0 sq1 sq2 sq3 kq0 kq1 kq2
        replace hbW := hbW.trans (bq.mono hbW.size)
        replace hB := hB.trans (bq.mono hB.size)
        clear bq
        generalize grow (redrawn wr dq) osq = wq at *
        clear q0 hmF hmH
        go_wp2_with fail
        go_roundw
        case rel => exact ⟨i + 1, by go_num, by omega, hbW, hB⟩
        case measure => simp [intOf]; omega
      · clear hin
        go_wp2_with fail
        go_loopw [12] (fun v12 wr => ∃ i : Nat, v12 = .int .i64 i ∧ i ≤ n' ∧ Below W.heap.size W wr ∧ Below w.heap.size w wr) (fun v12 _ => n' - (intOf v12).toNat)
        case atStart => exact ⟨0, rfl, Nat.zero_le _, hbW, hB⟩
        case round =>
          clear hB hbW
          obtain ⟨i, rfl, hin, hbW, hB⟩ := hrel
          by_cases hi : i < n'
          · obtain ⟨b, off, rfl, hb, hc⟩ := Reads.form (HRb.out.below hB) (by omega)
            have hil : i < Kb.length := by have := HLb.out; omega
            have q0 := hc i (Value.string Kb[i]) (by simp [hil])
            have hmH := HHm.out Kb[i] (.inr (List.getElem_mem hil))
            obtain ⟨s, hs⟩ : ∃ s, Kb[i] = s := ⟨_, rfl⟩
            rw [hs] at q0 hmH
            clear hc hs
            have sq0 := cell_regrown (show wr.cell? ⟨b, off + i, none⟩ = some (.string s) by simpa using q0)
            have sq1 := cell_regrown (show wr.cell? ⟨g7, 0, none⟩ = some (.slice A7 N c7) by simpa using (B7.below hbW B7.lt).cell 0)
            have kq0 : ∀ d os, Calls Try.prog 46 #[.agg #[.slice A7 N c7], .string s] (grow (redrawn wr d) os) fun e w'' => e = .returned (.bool true) ∧ ∃ p : Regrown, w'' = grow (redrawn wr p.d) p.os := fun d os => Calls.regrown_of (by
              have bz := below_regrown wr d os
              exact calls_val (congrArg Value.bool hmH) (filter_May A7 N c7 H s (grow (redrawn wr d) os) ((RH.below (hbW.trans (bz.mono hbW.size) |>.mono le_RH)).more (Nat.le_trans le_RH (hbW.trans (bz.mono hbW.size)).size)) HHl.out (by omega)))
            go_upto_region 19 with fail
            refine wp_region_quiet_below (by kernel_rfl) (by kernel_rfl) ?_
            repeat (go_big_quiet_step (first | with_reducible exact kq0 _ _))
            refine wpQuiet_nil ?_
            intro _ hw'
            obtain ⟨⟨dq, osq⟩, hw''⟩ := hw'
            subst hw''
            have bq := below_regrown wr dq osq
            clear sq0 sq1 kq0
            replace hbW := hbW.trans (bq.mono hbW.size)
            replace hB := hB.trans (bq.mono hB.size)
            clear bq
            generalize grow (redrawn wr dq) osq = wq at *
            clear q0 hmH
            go_wp2_with fail
            go_roundw
            case rel => exact ⟨i + 1, by go_num, by omega, hbW, hB⟩
            case measure => simp [intOf]; omega
          · clear hin
            go_wp2_with fail
            refine (law14_alive wr).mono ?_
            rintro e w10 ⟨rfl, b10⟩
            replace hB := hB.trans (b10.mono hB.size)
            go_wp2_with fail
            go_ret
            exact ⟨rfl, hB⟩
  · rw [if_neg hNN] at O7
    rw [show decide (N = N2) = false by simp [hNN]]
    obtain ⟨A7, c7, rfl, _, RH⟩ := O7.reads
    simp only [List.length_nil] at RH ⊢
    clear O7
    have le_RH := Nat.le_refl w4.heap.size
    have B7 := Blk.new w4 61 #[.slice A7 0 c7]
    replace RF := RF.alloc le_RF (.cells #[.slice A7 0 c7] 61)
    replace le_RF := Nat.le_trans le_RF (le_alloc _ (.cells #[.slice A7 0 c7] 61))
    replace RG := RG.alloc le_RG (.cells #[.slice A7 0 c7] 61)
    replace le_RG := Nat.le_trans le_RG (le_alloc _ (.cells #[.slice A7 0 c7] 61))
    replace hB := hB.alloc hB.size (.cells #[.slice A7 0 c7] 61)
    replace B5 := B5.alloc (.cells #[.slice A7 0 c7] 61)
    replace B6 := B6.alloc (.cells #[.slice A7 0 c7] 61)
    replace RH := RH.alloc le_RH (.cells #[.slice A7 0 c7] 61)
    replace le_RH := Nat.le_trans le_RH (le_alloc _ (.cells #[.slice A7 0 c7] 61))
    have cq0 := B5.cell
    go_wp2_with fail
    clear cq0
    generalize w4.alloc (.cells #[.slice A7 0 c7] 61) = w5 at *
    generalize w4.heap.size = g7 at *
    have HP := Lib.hid (sieve_Put w5 w5.heap.size (.slice none 0 0) [] A2 N c2 (pk F) (Own.nil_ _ _) (Nat.le_refl _) (by simp; omega) (RF.more le_RF))
    refine HP.out.mono ?_
    clear HP
    rintro e w6 ⟨v6, rfl, O6, G6, _⟩
    have b6 : Below w5.heap.size w5 w6 := Below.grown (Below.refl _ _) G6 (Nat.le_refl _) (fun q hq => by simp [Value.ownBlock] at hq)
    clear G6
    replace RF := RF.below (b6.mono le_RF)
    replace le_RF := Nat.le_trans le_RF b6.size
    replace RG := RG.below (b6.mono le_RG)
    replace le_RG := Nat.le_trans le_RG b6.size
    replace hB := hB.trans (b6.mono hB.size)
    replace B5 := B5.below b6 B5.lt
    replace B6 := B6.below b6 B6.lt
    replace RH := RH.below (b6.mono le_RH)
    replace le_RH := Nat.le_trans le_RH b6.size
    replace B7 := B7.below b6 B7.lt
    clear b6
    obtain ⟨A8, c8, rfl, hc8, R8⟩ := O6.reads
    rw [List.nil_append] at R8 hc8 ⊢
    obtain ⟨k8, hk8⟩ : ∃ k, (wtext (pk F)).length = k := ⟨_, rfl⟩
    have hk8b : k8 ≤ 100000 := by
      have h9 := HPl.out
      have hwl := wput_length (pk F).length (by omega)
      have : (wtext (pk F)).length = (wput (pk F).length).length + (pk F).length := by unfold wtext; simp
      omega
    rw [hk8] at R8 hc8 ⊢
    clear O6 hk8
    go_wp2_with fail
    refine (wire_New A8 k8 c8 w6).mono ?_
    rintro e w7 ⟨rfl, rfl⟩
    have RD : Rd (w6.alloc (.cells #[.slice A8 k8 c8, .int .i64 0, .int .i64 0] 114)) w6.heap.size A8 k8 c8 (wtext (pk F)) 0 0 := ⟨Blk.new _ _ _, (R8.alloc (Nat.le_refl _) _), Nat.zero_le _, by omega, hc8⟩
    clear R8
    have l5 := B5.lt
    have l7 := B7.lt
    have lF := le_RF
    have lH := le_RH
    have lB := hB.size
    replace RF := RF.alloc le_RF (.cells #[.slice A8 k8 c8, .int .i64 0, .int .i64 0] 114)
    replace le_RF := Nat.le_trans le_RF (le_alloc _ (.cells #[.slice A8 k8 c8, .int .i64 0, .int .i64 0] 114))
    replace RG := RG.alloc le_RG (.cells #[.slice A8 k8 c8, .int .i64 0, .int .i64 0] 114)
    replace le_RG := Nat.le_trans le_RG (le_alloc _ (.cells #[.slice A8 k8 c8, .int .i64 0, .int .i64 0] 114))
    replace hB := hB.alloc hB.size (.cells #[.slice A8 k8 c8, .int .i64 0, .int .i64 0] 114)
    replace B5 := B5.alloc (.cells #[.slice A8 k8 c8, .int .i64 0, .int .i64 0] 114)
    replace B6 := B6.alloc (.cells #[.slice A8 k8 c8, .int .i64 0, .int .i64 0] 114)
    replace RH := RH.alloc le_RH (.cells #[.slice A8 k8 c8, .int .i64 0, .int .i64 0] 114)
    replace le_RH := Nat.le_trans le_RH (le_alloc _ (.cells #[.slice A8 k8 c8, .int .i64 0, .int .i64 0] 114))
    replace B7 := B7.alloc (.cells #[.slice A8 k8 c8, .int .i64 0, .int .i64 0] 114)
    generalize w6.alloc (.cells #[.slice A8 k8 c8, .int .i64 0, .int .i64 0] 114) = w7 at *
    generalize w6.heap.size = g9 at *
    have hsz : (((8 * N : Nat) : Int) == ((8 * N2 : Nat) : Int)) = false := by simp; omega
    have sq0 := cell_regrown (show w7.cell? ⟨g5, 0, none⟩ = some (.slice A2 N c2) by simpa using B5.cell 0)
    have sq1 := cell_regrown (show w7.cell? ⟨g5 + 1, 0, none⟩ = some (.slice A3 N2 c3) by simpa using B6.cell 0)
    have kq0 : ∀ d os, Calls Try.prog 43 #[.agg #[.slice A2 N c2]] (grow (redrawn w7 d) os) fun e w'' => e = .returned (.int .i64 ((8 * N : Nat) : Int)) ∧ ∃ p : Regrown, w'' = grow (redrawn w7 p.d) p.os := fun d os => Calls.regrown_of (by
      have bz := below_regrown w7 d os
      exact filter_Size A2 N c2 (grow (redrawn w7 d) os) (by omega))
    have kq1 : ∀ d os, Calls Try.prog 43 #[.agg #[.slice A3 N2 c3]] (grow (redrawn w7 d) os) fun e w'' => e = .returned (.int .i64 ((8 * N2 : Nat) : Int)) ∧ ∃ p : Regrown, w'' = grow (redrawn w7 p.d) p.os := fun d os => Calls.regrown_of (by
      have bz := below_regrown w7 d os
      exact filter_Size A3 N2 c3 (grow (redrawn w7 d) os) (by omega))
    go_upto_region 6 with fail
    refine wp_region_quiet_below (by kernel_rfl) (by kernel_rfl) ?_
    repeat (go_big_quiet_step (first | with_reducible exact kq0 _ _ | with_reducible exact kq1 _ _))
    refine wpQuiet_nil ?_
    intro _ hw'
    obtain ⟨⟨dq, osq⟩, hw''⟩ := hw'
    subst hw''
    have bq := below_regrown w7 dq osq
    clear sq0 sq1 kq0 kq1
    replace RF := RF.below (bq.mono le_RF)
    replace le_RF := Nat.le_trans le_RF bq.size
    replace RG := RG.below (bq.mono le_RG)
    replace le_RG := Nat.le_trans le_RG bq.size
    replace hB := hB.trans (bq.mono hB.size)
    replace B5 := B5.below bq B5.lt
    replace B6 := B6.below bq B6.lt
    replace RH := RH.below (bq.mono le_RH)
    replace le_RH := Nat.le_trans le_RH bq.size
    replace B7 := B7.below bq B7.lt
    replace RD := RD.below bq
    clear bq
    generalize grow (redrawn w7 dq) osq = w8 at *
    clear B6 RG
    clear hsz
    have hG := sieve_Get w8 g9 A8 k8 c8 (wtext (pk F)) 0 0 RD
    have hrt : rText (wtext (pk F)) 65536 0 = (pk F, (wput (pk F).length).length + (pk F).length, 0) := by
      have h9 := HPl.out
      have := rText_put (pk F) [] 65536 (by omega) (by omega)
      rw [List.append_nil] at this
      exact this
    rw [List.drop_zero, hrt] at hG
    simp only [] at hG
    generalize (0 + ((wput (pk F).length).length + (pk F).length)) = kk at hG
    have HG := Lib.hid hG
    clear hG hrt RD
    go_wp2_with fail
    refine HG.out.mono ?_
    clear HG
    rintro e w9 ⟨A10, c10, rfl, RK, RD, G9⟩
    replace RF := RF.grown G9 le_RF (fun q hq => by injection hq with hq; omega)
    replace le_RF := Nat.le_trans le_RF G9.size
    replace hB := Below.grown hB G9 hB.size (fun q hq => by injection hq with hq; omega)
    replace B5 := B5.grown G9 (by have := B5.lt; simp; omega)
    replace RH := RH.grown G9 le_RH (fun q hq => by injection hq with hq; omega)
    replace le_RH := Nat.le_trans le_RH G9.size
    replace B7 := B7.grown G9 (by have := B7.lt; simp; omega)
    clear G9
    rw [HPl.out] at RK ⊢
    have le_RK := Nat.le_refl w9.heap.size
    have B10 := Blk.new w9 61 #[.slice A10 N c10]
    replace RF := RF.alloc le_RF (.cells #[.slice A10 N c10] 61)
    replace le_RF := Nat.le_trans le_RF (le_alloc _ (.cells #[.slice A10 N c10] 61))
    replace hB := hB.alloc hB.size (.cells #[.slice A10 N c10] 61)
    replace B5 := B5.alloc (.cells #[.slice A10 N c10] 61)
    replace RH := RH.alloc le_RH (.cells #[.slice A10 N c10] 61)
    replace le_RH := Nat.le_trans le_RH (le_alloc _ (.cells #[.slice A10 N c10] 61))
    replace B7 := B7.alloc (.cells #[.slice A10 N c10] 61)
    replace RK := RK.alloc le_RK (.cells #[.slice A10 N c10] 61)
    replace le_RK := Nat.le_trans le_RK (le_alloc _ (.cells #[.slice A10 N c10] 61))
    replace RD := RD.alloc (.cells #[.slice A10 N c10] 61)
    go_upto_region 9 with fail
    generalize w9.alloc (.cells #[.slice A10 N c10] 61) = w10 at *
    generalize w9.heap.size = g10 at *
    have sq0 := cell_regrown (show w10.cell? ⟨g5, 0, none⟩ = some (.slice A2 N c2) by simpa using B5.cell 0)
    have sq1 := cell_regrown (show w10.cell? ⟨g10, 0, none⟩ = some (.slice A10 N c10) by simpa using B10.cell 0)
    have kq0 : ∀ d os, Calls Try.prog 43 #[.agg #[.slice A2 N c2]] (grow (redrawn w10 d) os) fun e w'' => e = .returned (.int .i64 ((8 * N : Nat) : Int)) ∧ ∃ p : Regrown, w'' = grow (redrawn w10 p.d) p.os := fun d os => Calls.regrown_of (by
      have bz := below_regrown w10 d os
      exact filter_Size A2 N c2 (grow (redrawn w10 d) os) (by omega))
    have kq1 : ∀ d os, Calls Try.prog 43 #[.agg #[.slice A10 N c10]] (grow (redrawn w10 d) os) fun e w'' => e = .returned (.int .i64 ((8 * N : Nat) : Int)) ∧ ∃ p : Regrown, w'' = grow (redrawn w10 p.d) p.os := fun d os => Calls.regrown_of (by
      have bz := below_regrown w10 d os
      exact filter_Size A10 N c10 (grow (redrawn w10 d) os) (by omega))
    have kq2 : ∀ d os, Calls Try.prog 45 #[.pointer (some ⟨g9, 0, none⟩)] (grow (redrawn w10 d) os) fun e w'' => e = .returned (.int .i64 0) ∧ ∃ p : Regrown, w'' = grow (redrawn w10 p.d) p.os := fun d os => Calls.regrown_of (by
      have bz := below_regrown w10 d os
      exact calls_keep (reader_Why (grow (redrawn w10 d) os) g9 A8 k8 c8 _ _ 0 (RD.below bz)))
    go_upto_region 9 with fail
    refine wp_region_quiet_below (by kernel_rfl) (by kernel_rfl) ?_
    repeat (go_big_quiet_step (first | with_reducible exact kq0 _ _ | with_reducible exact kq1 _ _ | with_reducible exact kq2 _ _))
    refine wpQuiet_nil ?_
    intro _ hw'
    obtain ⟨⟨dq, osq⟩, hw''⟩ := hw'
    subst hw''
    have bq := below_regrown w10 dq osq
    clear sq0 sq1 kq0 kq1 kq2
    replace RF := RF.below (bq.mono le_RF)
    replace le_RF := Nat.le_trans le_RF bq.size
    replace hB := hB.trans (bq.mono hB.size)
    replace B5 := B5.below bq B5.lt
    replace RH := RH.below (bq.mono le_RH)
    replace le_RH := Nat.le_trans le_RH bq.size
    replace B7 := B7.below bq B7.lt
    replace RK := RK.below (bq.mono le_RK)
    replace le_RK := Nat.le_trans le_RK bq.size
    replace RD := RD.below bq
    replace B10 := B10.below bq B10.lt
    clear bq
    generalize grow (redrawn w10 dq) osq = W at *
    clear RD
    go_wp2_with fail
    have hbW := Below.refl W.heap.size W
    go_loopw [11] (fun v11 wr => ∃ i : Nat, v11 = .int .i64 i ∧ i ≤ n ∧ Below W.heap.size W wr ∧ Below w.heap.size w wr) (fun v11 _ => n - (intOf v11).toNat)
    case atStart => exact ⟨0, rfl, Nat.zero_le _, hbW, hB⟩
    case round =>
      clear hB hbW
      obtain ⟨i, rfl, hin, hbW, hB⟩ := hrel
      by_cases hi : i < n
      · obtain ⟨b, off, rfl, hb, hc⟩ := Reads.form (HRa.out.below hB) (by omega)
        have hil : i < Ka.length := by have := HLa.out; omega
        have q0 := hc i (Value.string Ka[i]) (by simp [hil])
        have hmF := HFm.out Ka[i] (List.getElem_mem hil)
        obtain ⟨s, hs⟩ : ∃ s, Ka[i] = s := ⟨_, rfl⟩
        rw [hs] at q0 hmF
        clear hc hs
        have sq0 := cell_regrown (show wr.cell? ⟨b, off + i, none⟩ = some (.string s) by simpa using q0)
        have sq1 := cell_regrown (show wr.cell? ⟨g5, 0, none⟩ = some (.slice A2 N c2) by simpa using (B5.below hbW B5.lt).cell 0)
        have sq2 := cell_regrown (show wr.cell? ⟨g10, 0, none⟩ = some (.slice A10 N c10) by simpa using (B10.below hbW B10.lt).cell 0)
        have kq0 : ∀ d os, Calls Try.prog 46 #[.agg #[.slice A2 N c2], .string s] (grow (redrawn wr d) os) fun e w'' => e = .returned (.bool true) ∧ ∃ p : Regrown, w'' = grow (redrawn wr p.d) p.os := fun d os => Calls.regrown_of (by
          have bz := below_regrown wr d os
          exact calls_val (congrArg Value.bool hmF) (filter_May A2 N c2 F s (grow (redrawn wr d) os) ((RF.below (hbW.trans (bz.mono hbW.size) |>.mono le_RF)).more (Nat.le_trans le_RF (hbW.trans (bz.mono hbW.size)).size)) HFl.out (by omega)))
        have kq1 : ∀ d os, Calls Try.prog 46 #[.agg #[.slice A10 N c10], .string s] (grow (redrawn wr d) os) fun e w'' => e = .returned (.bool true) ∧ ∃ p : Regrown, w'' = grow (redrawn wr p.d) p.os := fun d os => Calls.regrown_of (by
          have bz := below_regrown wr d os
          exact calls_val (congrArg Value.bool hmF) (filter_May A10 N c10 F s (grow (redrawn wr d) os) ((RK.below (hbW.trans (bz.mono hbW.size) |>.mono le_RK)).more (Nat.le_trans le_RK (hbW.trans (bz.mono hbW.size)).size)) HFl.out (by omega)))
        go_upto_region 14 with fail
        refine wp_region_quiet_below (by kernel_rfl) (by kernel_rfl) ?_
        repeat (go_big_quiet_step (first | with_reducible exact kq0 _ _ | with_reducible exact kq1 _ _))
        refine wpQuiet_nil ?_
        intro _ hw'
        obtain ⟨⟨dq, osq⟩, hw''⟩ := hw'
        subst hw''
        have bq := below_regrown wr dq osq
        clear sq0 sq1 sq2 kq0 kq1
        replace hbW := hbW.trans (bq.mono hbW.size)
        replace hB := hB.trans (bq.mono hB.size)
        clear bq
        generalize grow (redrawn wr dq) osq = wq at *
        clear q0 hmF
        go_wp2_with fail
        go_roundw
        case rel => exact ⟨i + 1, by go_num, by omega, hbW, hB⟩
        case measure => simp [intOf]; omega
      · clear hin
        go_wp2_with fail
        refine wp_loop_rounds 1 ?_
        rw [rounds_succ]
        have b7 := (B7.below hbW B7.lt).cell
        go_wp2_with fail
        refine (filter_Size A7 0 c7 wr (by omega)).mono ?_
        rintro e w9 ⟨rfl, b9⟩
        replace hB := hB.trans (b9.mono hB.size)
        clear b7
        go_wp2_with fail
        refine (law14_alive w9).mono ?_
        rintro e w10 ⟨rfl, b10⟩
        replace hB := hB.trans (b10.mono hB.size)
        go_wp2_with fail
        go_ret
        exact ⟨rfl, hB⟩
end Go.Proofs.Ytfebncpfhdgkpaa
