/- The walk of the law PageBack: it returns true, and nothing that was there ahead of the call has turned. -/
import Derived.Test.YthbhbechemnidaaDoorPagF
import Derived.Test.YthbhbechemnidaaDoorPagT
import Derived.Test.YthbhbechemnidaaDoorPagD
import Derived.Test.YthbhbechemnidaaDoorRdrAt
import Derived.Test.YthbhbechemnidaaDoorOpenMut
namespace Go.Proofs.YthbhbechemnidaaDoor
open Go.RowKit Go.Sort

theorem own_litP (w : World) (base : Nat) (hb : base ≤ w.heap.size) (cs : Array Value) (l : List UInt8) (hl : l.length ≤ 1000) (h : cs = (l.map vb).toArray) : Own (w.alloc (.cells cs 5)) base (.slice (some ⟨w.heap.size, 0, none⟩) l.length l.length) l := by
  subst h
  exact ⟨by simp, .inr ⟨w.heap.size, l.length, (l.map vb).toArray, rfl, hb, heap_alloc_new w _, Nat.le_refl _, by unfold maxLen; omega, by simp, by rw [Nat.mul_one]; simp [List.take_of_length_le]⟩⟩
theorem flat_lenB : ∀ L : List MutS, (L.flatMap mutL).length = L.length * 10
  | [] => rfl
  | e :: L => by
    rw [List.flatMap_cons, List.length_append, flat_lenB L, mutL_len, List.length_cons]
    omega
theorem RdM.takeB {w : World} {A : Option Addr} {n : Nat} {M : List Mut} (h : RdM w A n M) (k : Nat) (hk : k ≤ n) : RdM w A k (M.take k) := by
  obtain ⟨L, rfl, h1, h2, h3⟩ := h
  have hl := muts_n h1
  refine ⟨L.take k, List.map_take .., ?_, h2.sub (fun e he => List.mem_of_mem_take he), fun e he => h3 e (List.mem_of_mem_take he)⟩
  have hlen : ((L.take k).flatMap mutL).length = k * 10 := by
    rw [flat_lenB]
    simp
    omega
  refine ⟨hlen, fun h0 => ?_⟩
  obtain ⟨ad, hA, hb, hc⟩ := h1.2 (by omega)
  refine ⟨ad, hA, hb, fun j u hu => hc j u ?_⟩
  have hp : (L.take k).flatMap mutL <+: L.flatMap mutL := by
    refine ⟨(L.drop k).flatMap mutL, ?_⟩
    rw [← List.flatMap_append, List.take_append_drop]
  obtain ⟨t, ht⟩ := hp
  have hj := (List.getElem?_eq_some_iff.1 hu).1
  rw [← ht, List.getElem?_append_left hj]
  exact hu
theorem reads_tail {w : World} {B n b : Nat} {L : List UInt8} {x : UInt8} (h : Reads w B 1 (some ⟨b, 0, none⟩) (n + 1) ((x :: L).map vb)) (hn : 0 < n) : Reads w B 1 (some ⟨b, 1, none⟩) n (L.map vb) := by
  have hl := h.1
  refine ⟨by simp at hl ⊢; omega, fun h0 => ?_⟩
  obtain ⟨ad, hA, hb, hc⟩ := h.2 (by omega)
  injection hA with hA
  subst hA
  refine ⟨_, rfl, hb, fun j u hu => ?_⟩
  have := hc (j + 1) u (by simpa using hu)
  rw [add_lit] at this ⊢
  rw [show 1 + j = 0 + (j + 1) by omega]
  exact this
theorem great1_all {e : MutS} (h : great1 e = false) : e.m.key.size ≤ 200 ∧ e.m.en.size ≤ 200 ∧ e.m.val.size ≤ 200 ∧ e.n ≤ 50 := by
  unfold great1 at h
  simp only [Bool.or_eq_false_iff, decide_eq_false_iff_not] at h
  omega
/-- A row that is owned, as one that is read. -/
theorem OwnM.rdlB {w : World} {base lo : Nat} {v : Value} {M : List Mut} (h : OwnM w base lo v M) : ∃ (L : List MutS) (A : Option Addr) (c : Nat), v = .slice A M.length c ∧ L.map (·.m) = M ∧ RdL w w.heap.size A M.length L := by
  obtain ⟨L, rfl, h1, h2, h3, h4⟩ := h.row
  obtain ⟨A, c, rfl, hc, hn, -⟩ := own_form h1
  rw [List.length_map]
  exact ⟨L, A, c, rfl, rfl, Reads.of_own h1, fun e he => ⟨(h2 e he).1, h3 e he⟩⟩
set_option maxRecDepth 100000 in
theorem law08_GreatBigB (A : Option Addr) (n c : Nat) (most : Int) (w : World) (hm : most < (n : Int)) :
    Calls Tryd.prog 12 #[.slice A n c, .int .i64 most] w fun e w' => e = .returned (.bool true) ∧ w = w' := by
  have hd : decide (most < (n : Int)) = true := by simp [hm]
  go_enter Tryd.func12, Tryd.ntmps12
  go_wp2_with fail
  go_ret
  exact ⟨rfl, rfl⟩

set_option maxRecDepth 100000 in
set_option maxHeartbeats 4000000 in
theorem page_back_walk (w : World) (hT : Tabs w) (A0 : Option Addr) (n0 c0 : Nat) (L0 : List MutS) (hnc : n0 ≤ c0) (_hc0 : c0 ≤ maxLen) (hA0 : A0 = none → c0 = 0) (hl0 : L0.length = n0) (hq0 : ∀ e ∈ L0, MutQ w e) (hr0 : Reads w w.heap.size 10 A0 n0 (L0.flatMap mutL))
    (A1 : Option Addr) (n1 c1 : Nat) (lb : List UInt8) (hnc1 : n1 ≤ c1) (hc1 : c1 ≤ maxLen) (hl1 : lb.length = n1) (hr1 : Reads w w.heap.size 1 A1 n1 (lb.map vb)) (_hA1 : A1 = none → c1 = 0) :
    Calls Tryd.prog 10 #[.slice A0 n0 c0, .slice A1 n1 c1] w fun e w' => e = .returned (.bool true) ∧ Below w.heap.size w w' := by
  have hn1 : n1 ≤ 9223372036854775807 := by unfold maxLen at hc1; omega
  by_cases hn : 40 < n0
  · have CG := Lib.hid (law08_GreatBigB A0 n0 c0 40 w (by omega))
    clear hq0 hr0 hnc _hc0 hA0 hl0 hT hn hr1 hl1
    go_enter Tryd.func10, Tryd.ntmps10
    go_wp2_with fail
    refine CG.out.mono ?_
    rintro x w1 ⟨rfl, rfl⟩
    go_wp2_with fail
    go_ret
    exact ⟨rfl, Below.refl _ _⟩
  have hn40 : n0 ≤ 40 := by omega
  obtain ⟨g, hg⟩ : ∃ g, (decide ((40 : Int) < (n0 : Int)) || L0.any great1) = g := ⟨_, rfl⟩
  have CG := Lib.hid (law08_Great A0 n0 c0 L0 40 w hr0 (by omega))
  rw [hg] at CG
  have HG := Lib.hid hg
  have HR0 := Lib.hid hr0
  have HQ0 := Lib.hid hq0
  have HL0 := Lib.hid hl0
  have HT := Lib.hid hT
  have HR1 := Lib.hid hr1
  have HL1 := Lib.hid hl1
  clear hq0 hr0 _hc0 hl0 hT hn hg hr1 hl1 hc1
  cases g with
  | true =>
    go_enter Tryd.func10, Tryd.ntmps10
    go_wp2_with fail
    refine CG.out.mono ?_
    rintro x w1 ⟨rfl, rfl⟩
    go_wp2_with fail
    go_ret
    exact ⟨rfl, Below.refl _ _⟩
  | false =>
  by_cases hn1000 : 1000 < n1
  · have hd : decide (1000 < (n1 : Int)) = true := by simp; omega
    clear hn1000
    go_enter Tryd.func10, Tryd.ntmps10
    go_wp2_with fail
    refine CG.out.mono ?_
    rintro x w1 ⟨rfl, rfl⟩
    go_wp2_with fail
    go_ret
    exact ⟨rfl, Below.refl _ _⟩
  have hd1 : decide (1000 < (n1 : Int)) = false := by simp; omega
  have hn1s : n1 ≤ 1000 := by omega
  have HG1 : Hid (∀ e ∈ L0, great1 e = false) := Lib.hid (fun e he => by
    have h := HG.out
    rw [Bool.or_eq_false_iff, List.any_eq_false] at h
    simpa using h.2 e he)
  have HTX : Hid (∀ e ∈ L0, TxOk e.m) := Lib.hid (fun e he => by
    have h := great1_all (HG1.out e he)
    exact ⟨by omega, by omega, by unfold maxLen; omega⟩)
  have HRL : Hid (RdL w w.heap.size A0 n0 L0) := Lib.hid ⟨HR0.out, fun e he => ⟨(HQ0.out e he).2.2.2.1, by have := great1_all (HG1.out e he); omega, (HQ0.out e he).2.2.1⟩⟩
  clear hn1000
  obtain ⟨M0, hM0⟩ : ∃ M0, L0.map (·.m) = M0 := ⟨_, rfl⟩
  have hM0l : M0.length = n0 := by rw [← hM0, List.length_map, HL0.out]
  have C2 := ref09_Right A0 n0 c0 L0 w.heap.size w (HT.out) HRL.out HTX.out (Nat.le_refl _) (by omega)
  rw [hM0] at C2
  have C2 := Lib.hid C2
  have hl4 : (right9 M0).length ≤ 1000 := by
    have := right9_len M0 []
    unfold right9
    simp at this
    omega
  have HPG := Lib.hid (sorted_ok M0)
  have hl5 : (sort15 (right9 M0)).length ≤ 1000 := by
    have h1 := sort15_len (right9 M0) []
    have h2 := right9_len M0 []
    unfold right9 at h1 ⊢
    unfold sort15
    simp at h1 h2
    omega
  obtain ⟨S, hS⟩ : ∃ S, sort15 (right9 M0) = S := ⟨_, rfl⟩
  have HS := Lib.hid hS
  rw [hS] at HPG hl5
  clear hS hM0 hM0l HTX HRL HG1 HG
  go_enter Tryd.func10, Tryd.ntmps10
  go_wp2_with fail
  refine CG.out.mono ?_
  rintro x w1 ⟨rfl, rfl⟩
  clear CG
  go_wp2_with fail
  clear hd1
  refine C2.out.mono ?_
  clear C2
  rintro x u4 ⟨v4, rfl, O4, b4⟩
  obtain ⟨A4, c4, L4, rfl, -, -, hL4, hr4⟩ := O4.rd
  have C3 := ref15_Sort A4 (right9 M0).length c4 L4 w.heap.size u4 hr4 b4.size hl4
  rw [hL4, HS.out] at C3
  have C3 := Lib.hid C3
  have hB4 := Lib.hid b4
  clear O4 hL4 hr4 b4 hl4
  go_wp2_with fail
  refine C3.out.mono ?_
  clear C3
  rintro x u5 ⟨v5, rfl, O5, b5⟩
  obtain ⟨A5, c5, L5, rfl, hsc, hA5, hL5, hr5⟩ := O5.rd
  have hb5 := hB4.out.trans (b5.mono hB4.out.size)
  obtain ⟨s, hs⟩ : ∃ s, S.length = s := ⟨_, rfl⟩
  rw [hs] at hr5 hsc hl5
  rw [hs]
  obtain ⟨q, hq⟩ : ∃ q, min s 8 = q := ⟨_, rfl⟩
  have hq1 : q ≤ s := by omega
  have hq8 : q ≤ 8 := by omega
  have hmin : min (s : Int) 8 = q := by omega
  have RM := hr5.rdm hb5.size
  rw [hL5] at RM
  replace RM := RM.takeB q hq1
  obtain ⟨M, hM⟩ : ∃ M, S.take q = M := ⟨_, rfl⟩
  have hok := HPG.out.take q
  have hMl : M.length = q := by rw [← hM, List.length_take]; omega
  rw [hM] at RM hok
  have HRM := Lib.hid RM
  have HOK := Lib.hid hok
  have HML := Lib.hid hMl
  have hpl := pgPut_len M hok.rt (by omega)
  have hpp : 0 < (pgPut M).length := by unfold pgPut; rw [List.length_append]; have := wput_pos M.length; omega
  have hB5 := Lib.hid hb5
  have hw5 := hb5.size
  clear O5 hL5 hr5 RM hM hok hMl hs hq b5 hB4 hA5 HPG HS hb5
  go_wp2_with fail
  clear hmin
  have OL := own_litP u5 u5.heap.size (Nat.le_refl _) #[.int .u8 3] [3] (by decide) rfl
  have b6 : Below u5.heap.size u5 (u5.alloc (.cells #[.int .u8 3] 5)) := (Below.refl _ _).alloc (Nat.le_refl _) _
  generalize u5.alloc (.cells #[.int .u8 3] 5) = W6 at *
  have C4 := Lib.hid (page_Put u5 W6 u5.heap.size (.slice (some ⟨u5.heap.size, 0, none⟩) 1 1) [3] A5 q c5 M OL b6.size (Nat.le_refl _) b6 HRM.out HOK.out.rt (by omega) (by decide))
  refine C4.out.mono ?_
  clear C4
  rintro x u7 ⟨v7, rfl, O7, G7, -⟩
  have b7 : Below u5.heap.size u5 u7 := Below.grown b6 G7 b6.size (fun k hk => by have h5 := (show some _ = some k from hk); injection h5 with h5; show _ ≤ k; rw [← h5]; exact Nat.le_refl _)
  have HRM7 := Lib.hid (HRM.out.below b7)
  have hB7 := Lib.hid (hB5.out.trans (b7.mono hB5.out.size))
  rw [show [3] ++ pgPut M = 3 :: pgPut M from rfl] at O7
  obtain ⟨P, hP⟩ : ∃ P, pgPut M = P := ⟨_, rfl⟩
  have HP := Lib.hid hP
  rw [hP] at O7 hpl hpp
  obtain ⟨p, hp⟩ : ∃ p, P.length = p := ⟨_, rfl⟩
  have HPL := Lib.hid hp
  rw [hp] at hpl hpp
  obtain ⟨A7, c7, rfl, hc7, R7⟩ := O7.reads
  obtain ⟨b, hA7⟩ : ∃ b, A7 = some ⟨b, 0, none⟩ := by
    obtain ⟨A', c', e1, _, _, e2⟩ := own_form O7
    obtain ⟨g, h6, _⟩ := e2 (by simp)
    injection e1 with e1
    exact ⟨g, e1.trans h6⟩
  subst hA7
  have hl7 : (3 :: P).length = p + 1 := by rw [List.length_cons, hp]
  rw [hl7] at R7 hc7
  rw [hl7]
  have HR7 := Lib.hid R7
  clear hP O7 G7 R7 b6 b7 OL hp hl7 HRM hB5
  go_wp2_with fail
  have OL := own_litP u7 u7.heap.size (Nat.le_refl _) #[.int .u8 3] [3] (by decide) rfl
  have b8 : Below u7.heap.size u7 (u7.alloc (.cells #[.int .u8 3] 5)) := (Below.refl _ _).alloc (Nat.le_refl _) _
  generalize u7.alloc (.cells #[.int .u8 3] 5) = W8 at *
  have C5 := ref15_Put A5 q c5 M W8 (HRM7.out.below b8) HOK.out.rt (by omega)
  rw [HP.out] at C5
  have C5 := Lib.hid C5
  refine C5.out.mono ?_
  clear C5
  rintro x u9 ⟨v9, rfl, O9, b9⟩
  obtain ⟨A9, c9, rfl, hc9, R9⟩ := O9.reads
  replace OL := Lib.hid (OL.below b9)
  have b79 := b8.trans (b9.mono b8.size)
  have hs9 : u7.heap.size ≤ u9.heap.size := b79.size
  rw [HPL.out] at R9
  rw [HPL.out]
  have HR9 := Lib.hid R9
  clear O9 R9 b8 b9 hc9
  go_wp2_with (at_builtin; go_must (refine append_bytes u9 rfl _ _ rfl u7.heap.size (.slice (some ⟨u7.heap.size, 0, none⟩) 1 1) [3] rfl OL.out A9 p c9 P rfl HR9.out (by simp; omega) hs9 ?_); intro v10 w10 O10 G10 _)
  have b10 := Lib.hid (Below.grown b79 G10 hs9 (fun k hk => by have h5 := (show some _ = some k from hk); injection h5 with h5; show _ ≤ k; rw [← h5]; exact Nat.le_refl _))
  obtain ⟨A10, c10, rfl, hc10, R10⟩ := O10.reads
  have hl10 : ([3] ++ P).length = p + 1 := by rw [List.length_append, HPL.out]; simp; omega
  rw [hl10] at R10 hc10
  rw [hl10]
  have hE := bytes_Equal (some ⟨b, 0, none⟩) A10 (p + 1) (p + 1) c7 c10 (3 :: P) ([3] ++ P) w10 ((HR7.out.below b10.out).more b10.out.size) R10 (by omega)
  rw [decide_eq_true (show 3 :: P = [3] ++ P from rfl)] at hE
  have CE := Lib.hid hE
  clear hE O10 G10 R10 hl10 HR9 OL b79
  refine CE.out.mono ?_
  clear CE
  rintro x w11 ⟨rfl, b11⟩
  have hb11 := b10.out.trans (b11.mono b10.out.size)
  have HR11 := Lib.hid (reads_tail ((HR7.out.below hb11).more hb11.size) hpp)
  have hB11 := Lib.hid (hB7.out.trans (hb11.mono hB7.out.size))
  have HRM11 := Lib.hid (HRM7.out.below hb11)
  have hcp : ¬ c7 = 1 := by omega
  have hc71 : (1 : Int) ≤ (c7 : Int) := by omega
  clear b11 b10 hb11 HR7 HRM7 hB7 hs9
  go_wp2_with fail
  refine (bytes_Clone (some ⟨b, 1, none⟩) p (c7 - 1) P w11 HR11.out (fun h => by cases h) (by omega)).mono ?_
  rintro x w12 ⟨v12, rfl, O12, b12⟩
  have hs12 := b12.size
  have HB12 := Lib.hid b12
  have HR112 := Lib.hid ((HR1.out.below (hB11.out.trans (b12.mono hB11.out.size))).more (Nat.le_trans hB11.out.size hs12))
  have HO12 := Lib.hid O12
  have hpl9 := HPL.out
  clear O12 b12 HR11
  go_wp2_with (at_builtin; go_must (refine append_bytes w12 rfl _ _ rfl w11.heap.size v12 P rfl HO12.out A1 n1 c1 lb rfl HR112.out (by omega) hs12 ?_); intro v13 w13 O13 G13 _)
  have b13 := Below.grown HB12.out G13 hs12 (fun q hq => (HO12.out.lt q hq).1)
  have hB13 := hB11.out.trans (b13.mono hB11.out.size)
  have HRM13 := Lib.hid (HRM11.out.below b13)
  obtain ⟨A13, c13, rfl, hc13, R13⟩ := O13.reads
  obtain ⟨n, hn⟩ : ∃ n, (P ++ lb).length = n := ⟨_, rfl⟩
  have hn13 : n = p + n1 := by rw [← hn, List.length_append, hpl9, HL1.out]
  have hnb : n ≤ 1000000000 := by omega
  rw [hn] at R13 hc13 ⊢
  clear hB11 HRM11 HB12 HO12 G13 HR112 O13 b13 hn13 hn
  refine (wire_New A13 n c13 w13).mono ?_
  rintro x w14 ⟨rfl, rfl⟩
  have R : Rd (w13.alloc (.cells #[.slice A13 n c13, .int .i64 0, .int .i64 0] 103)) w13.heap.size A13 n c13 (P ++ lb) 0 0 := ⟨Blk.new _ _ _, R13.alloc (Nat.le_refl _) _, Nat.zero_le _, by omega, hc13⟩
  have hgw := hB13.size
  have bA : Below w13.heap.size w13 (w13.alloc (.cells #[.slice A13 n c13, .int .i64 0, .int .i64 0] 103)) := (Below.refl _ _).alloc (Nat.le_refl _) _
  have hB14 := hB13.trans (bA.mono hgw)
  have HBA := Lib.hid bA
  clear bA R13 hB13
  generalize w13.alloc (.cells #[.slice A13 n c13, .int .i64 0, .int .i64 0] 103) = W1 at *
  obtain ⟨g, hg⟩ : ∃ g, w13.heap.size = g := ⟨_, rfl⟩
  rw [hg] at R hgw
  rw [hg]
  have HGG := Lib.hid hg
  clear hg
  have e9 := whole_page M HOK.out (by have := HML.out; omega) [] lb
  rw [HP.out, List.nil_append, List.length_nil, Nat.zero_add, hpl9] at e9
  have C1 := page_Get W1 (HT.out.in_ (Nat.le_refl _) hB14) g A13 n c13 (P ++ lb) 0 0 R
  rw [e9] at C1
  have C1 := Lib.hid C1
  clear R e9
  have hx : (p : Int) = (p : Int) + 1 - 1 := by omega
  go_wp2_with fail
  clear hx
  refine C1.out.mono ?_
  clear C1
  rintro x w15 ⟨v15, rfl, O15, ⟨k', hk', R⟩, G15⟩
  rw [if_pos rfl] at O15
  rw [hk' rfl] at R
  have b15 := Below.grown HBA.out G15 HBA.out.size (fun k hk => by injection hk with hk; rw [HGG.out]; omega)
  have hgs : w.heap.size ≤ w13.heap.size := by rw [HGG.out]; exact hgw
  have hB15 := Below.grown hB14 G15 hB14.size (fun k hk => by injection hk with hk; omega)
  have HRM15 := Lib.hid (HRM13.out.below b15)
  obtain ⟨L9, A9, c9, rfl, hL9, hr9⟩ := O15.rdlB
  have RM9 := hr9.rdm (Nat.le_refl _)
  rw [hL9] at RM9
  have C4 := ref07_Same A9 A5 M.length c9 q c5 M M w15 RM9 HRM15.out (by have := HML.out; omega)
  rw [sameM_selfP] at C4
  have C4 := Lib.hid C4
  have HR15 := Lib.hid R
  clear O15 hL9 hr9 RM9 HRM15 HRM13 b15 hgs G15 HBA hB14 R hk'
  go_wp2_with fail
  refine C4.out.mono ?_
  clear C4
  rintro x w16 ⟨rfl, b16⟩
  have hB16 := hB15.trans (b16.mono hB15.size)
  have R16 := HR15.out.below b16
  clear b16 hB15 HR15
  go_wp2_with fail
  refine (reader_Why w16 g A13 n c13 (P ++ lb) p 0 R16).mono ?_
  rintro x w17 ⟨rfl, rfl⟩
  go_wp2_with fail
  refine (reader_At w16 g A13 n c13 (P ++ lb) p 0 R16).mono ?_
  rintro x w17 ⟨rfl, rfl⟩
  have hx : ((p : Int) == (p : Int) + 1 - 1) = true := by rw [beq_iff_eq]; omega
  go_wp2_with fail
  refine (alive15 w16 (HT.out.in_ (Nat.le_refl _) hB16)).mono ?_
  rintro x w18 ⟨rfl, b18⟩
  have hB18 := hB16.trans (b18.mono hB16.size)
  go_wp2_with fail
  go_ret
  exact ⟨rfl, hB18⟩
end Go.Proofs.YthbhbechemnidaaDoor
