/- Walk of RingRanges. -/
import Derived.Test.YtncdchhpdbmfcaaDoorRngI
namespace Go.Proofs.YtncdchhpdbmfcaaDoor
open Go.RowKit Go.Sort

theorem wm {P : Program} {f : FuncId} {a : Array Value} {w : World} {v : Value} (h : Calls P f a w fun e w' => e = .returned v ∧ w = w') : Calls P f a w fun e w' => e = .returned v ∧ Below w.heap.size w w' :=
  h.mono fun _ _ ⟨h1, h2⟩ => ⟨h1, h2 ▸ Below.refl _ _⟩
theorem bnd_out (S : List ByteArray) (i : Int) (h : i < 0 ∨ (S.length : Int) ≤ i) : bndV S i = .tuple #[.string ⟨#[]⟩, .string ⟨#[]⟩, .bool false] := by
  unfold bndV
  rw [if_pos h]
theorem bnd_in (K : List ByteArray) (i : Int) (h1 : 0 ≤ i) (h2 : i ≤ K.length) : bndV (⟨#[]⟩ :: K) i = .tuple #[.string (startT K i), .string (K[i.toNat]?.getD ⟨#[]⟩), .bool true] := by
  unfold bndV startT
  rw [if_neg (by simp only [List.length_cons]; omega)]
  rcases Int.lt_or_eq_of_le h1 with h3 | h3
  · obtain ⟨m, hm⟩ : ∃ m : Nat, i = (m : Int) + 1 := ⟨(i - 1).toNat, by omega⟩
    rw [if_pos ⟨by omega, h2⟩]
    subst hm
    rw [show ((m : Int) + 1).toNat = m + 1 by omega, show (((m : Int) + 1) - 1).toNat = m by omega]
    simp only [List.getElem?_cons_succ]
  · subst h3
    rw [if_neg (by omega)]
    rfl

set_option maxRecDepth 100000 in
set_option maxHeartbeats 1500000 in
theorem ring_ranges_walk (w : World) (hT : Tabs w) (nodes copies : Int) (h1 : (Lit.int .i64 nodes).wf = true) (h2 : (Lit.int .i64 copies).wf = true) (A : Option Addr) (n c : Nat) (K : List ByteArray) (hn : n ≤ maxLen) (hr : Reads w w.heap.size 1 A n (K.map Value.string)) (hz : ∀ s ∈ K, s.size ≤ maxLen) (i : Int) (h3 : (Lit.int .i64 i).wf = true) (f t : ByteArray) (hf : f.size ≤ 70368744177664) (ht : t.size ≤ 70368744177664) :
    Calls Tryd.prog 5 #[argS nodes copies A n c, .int .i64 i, argK f t] w fun e w' => e = .returned (.bool true) ∧ Below w.heap.size w w' := by
  have h1 : -9223372036854775808 ≤ nodes ∧ nodes ≤ 9223372036854775807 := by simpa [Lit.wf] using bounds_i64 h1
  have h2 : -9223372036854775808 ≤ copies ∧ copies ≤ 9223372036854775807 := by simpa [Lit.wf] using bounds_i64 h2
  have h3 : -9223372036854775808 ≤ i ∧ i ≤ 9223372036854775807 := by simpa [Lit.wf] using bounds_i64 h3
  unfold argS argK
  have hN : K.length = n := by have := hr.1; simpa using this
  have hzm : ∀ s ∈ K, s.size ≤ maxLen := hz
  obtain ⟨w2, hw2⟩ : ∃ w2, (w.alloc (.cells #[.int .i64 nodes, .int .i64 copies, .slice A n c] 24)).alloc (.cells #[.string f, .string t] 41) = w2 := ⟨_, rfl⟩
  have b2 : Below w.heap.size w w2 := by rw [← hw2]; exact ((Below.refl _ _).alloc (Nat.le_refl _) _).alloc (by rw [World.size_alloc]; omega) _
  have BS : Blk w2 w.heap.size 24 #[.int .i64 nodes, .int .i64 copies, .slice A n c] := by rw [← hw2]; exact (Blk.new _ _ _).alloc _
  have BK : Blk w2 (w.heap.size + 1) 41 #[.string f, .string t] := by rw [← hw2, ← World.size_alloc w (.cells #[.int .i64 nodes, .int .i64 copies, .slice A n c] 24)]; exact Blk.new _ _ _
  have hr2 := (hr.below b2).more b2.size
  have HG := Lib.hid (law20_great A n c K w2 hr2 (by unfold maxLen at hn; omega) hzm)
  have HNW := Lib.hid (ring_New nodes copies A n c K w2 (hT.below b2) hr2 (by unfold maxLen at hn; omega) hzm h1.1 h1.2 h2.1 h2.2)
  have HW2 := Lib.hid hw2
  have HR := Lib.hid hr
  have HN := Lib.hid hN
  clear hw2 hr2 hr hN
  have hsz2 := b2.size
  obtain ⟨g, hg⟩ : ∃ g, w.heap.size = g := ⟨_, rfl⟩
  have HGG := Lib.hid hg
  rw [hg] at BS BK
  have s0 := BS.cell 0
  have s1 := BS.cell 1
  have s2 := BS.cell 2
  go_enter Tryd.func5, Tryd.ntmps5
  go_upto_region 1 with fail
  rw [HW2.out]
  go_wp2_with fail
  refine HG.out.mono ?_
  rintro e w3 ⟨q, rfl, hq, rfl⟩
  cases q with
  | true =>
    go_wp2_with fail
    go_ret
    exact ⟨rfl, HGG.out ▸ b2⟩
  | false =>
    obtain ⟨hn10, hz200⟩ := hq rfl
    have HZ := Lib.hid hz200
    clear hq hz200
    have HRT := Lib.hid (fun w1 (b : Below w.heap.size w w1) => ref20_Right nodes copies A n c K w1 (hT.below b) ((HR.out.below b).more b.size) (by omega) (fun s hs => by have := HZ.out s hs; omega) h1.1 h1.2 h2.1 h2.2)
    have HAL := Lib.hid (fun w1 (b : Below w.heap.size w w1) => law20_alive w1 (hT.below b))
    go_wp2_with fail
    refine HNW.out.mono ?_
    rintro e w3 (⟨hRI, N, gr, hNN, rfl, hRG, b3⟩ | ⟨hRI, rfl, b3⟩)
    · have hU := right_starts hRI
      have hne := right_ne hRI
      have hn3 : n ≤ 3 := by have := hRI.2.2.2.2.1; have := HN.out; omega
      have hN5 : N ≤ 5 := by have := hRI.2.1; omega
      have HRI := Lib.hid hRI
      have hb3 := b2.trans (b3.mono hsz2)
      have HRG := Lib.hid hRG
      replace BS := BS.below b3 BS.lt
      replace BK := BK.below b3 BK.lt
      replace s0 := BS.cell 0
      replace s1 := BS.cell 1
      replace s2 := BS.cell 2
      obtain ⟨P, hP⟩ : ∃ P, sortU (plcs (N * 4)) = P := ⟨_, rfl⟩
      rw [hP] at HRG
      clear hRI hRG hP hNN b2 hsz2
      go_wp2_with fail
      refine (HRT.out w3 hb3).mono ?_
      rintro e w4 ⟨q, rfl, hq, b4⟩
      have hqt : q = true := hq.2 HRI.out
      subst hqt
      have hb4 := hb3.trans (b4.mono hb3.size)
      replace HRG := Lib.hid (HRG.out.below b4)
      replace BS := BS.below b4 BS.lt
      replace BK := BK.below b4 BK.lt
      replace s0 := BS.cell 0
      replace s1 := BS.cell 1
      replace s2 := BS.cell 2
      clear hq b3 hb3
      go_upto_region 6 with fail
      have k0 := cell_regrown s0
      have k1 := cell_regrown s1
      have k2 := cell_regrown s2
      have k3 := cell_regrown (BK.cell 0)
      have hlen : (((⟨#[]⟩ : ByteArray) :: K).length : Int) = (n : Int) + 1 := by have := HN.out; rw [List.length_cons]; omega
      have cN : ∀ d os, Calls Tryd.prog 16 _ (grow (redrawn w4 d) os) _ := fun d os => Calls.regrown_of (wm (ring_Nodes gr _ nodes copies P _ (HRG.out.below (below_regrown w4 d os))))
      have cC : ∀ d os, Calls Tryd.prog 17 _ (grow (redrawn w4 d) os) _ := fun d os => Calls.regrown_of (wm (ring_Copies gr _ nodes copies P _ (HRG.out.below (below_regrown w4 d os))))
      have cR : ∀ d os, Calls Tryd.prog 18 #[.pointer (some ⟨gr, 0, none⟩)] (grow (redrawn w4 d) os) (fun e w'' => e = .returned (.int .i64 ((n : Int) + 1)) ∧ ∃ p : Regrown, w'' = grow (redrawn w4 p.d) p.os) := fun d os => Calls.regrown_of (wm (by rw [← hlen]; exact ring_Ranges gr _ nodes copies P _ (HRG.out.below (below_regrown w4 d os))))
      have cG : ∀ d os, Calls Tryd.prog 19 _ (grow (redrawn w4 d) os) _ := fun d os => Calls.regrown_of (wm (ring_Range gr K nodes copies P f _ (HRG.out.below (below_regrown w4 d os)) hU hne (by have := HN.out; omega)))
      have cF : ∀ d os, Calls Tryd.prog 20 _ (grow (redrawn w4 d) os) _ := fun d os => Calls.regrown_of (wm (ref20_Range A n c K f _ ((HR.out.below (hb4.trans ((below_regrown w4 d os).mono hb4.size))).more (Nat.le_trans hb4.size (below_regrown w4 d os).size)) (by omega) hU))
      clear s0 s1 s2 hlen
      obtain ⟨r, hrr⟩ : ∃ r, rk K f = r := ⟨_, rfl⟩
      simp only [hrr] at cG cF
      have HRR := Lib.hid hrr
      clear hrr
      refine wp_region_quiet_below (by kernel_rfl) (by kernel_rfl) ?_
      repeat (go_big_quiet_step (first | exact cN _ _ | exact cC _ _ | exact cR _ _ | exact cG _ _ | exact cF _ _))
      refine wpQuiet_nil ?_
      rintro w5 ⟨⟨dq, osq⟩, hw5⟩
      have b5 : Below w4.heap.size w4 w5 := by rw [hw5]; exact below_regrown w4 dq osq
      clear hw5 cN cC cR cG cF k0 k1 k2 k3
      have hb5 := hb4.trans (b5.mono hb4.size)
      replace HRG := Lib.hid (HRG.out.below b5)
      replace BS := BS.below b5 BS.lt
      replace BK := BK.below b5 BK.lt
      clear b4 hb4 b5
      have HSP := Lib.hid (span_code K hU f t)
      obtain ⟨sc1, sc2, sc3⟩ := HSP.out
      have HBD := Lib.hid (ring_Bounds gr (⟨#[]⟩ :: K) nodes copies P i w5 HRG.out (by rw [List.length_cons]; have := HN.out; omega) h3.1 h3.2)
      have HSPN := Lib.hid (fun w1 (b : Below w5.heap.size w5 w1) => ring_Span gr K nodes copies P f t w1 (hT.below (hb5.trans (b.mono hb5.size))) (HRG.out.below b) hU hne (by have := HN.out; omega) (by unfold maxLen; omega) (by unfold maxLen; omega))
      have HLS := Lib.hid (fun w1 (b : Below w5.heap.size w5 w1) => law20_span nodes copies A n c K f t (codeV K f t) w1 ((HR.out.below (hb5.trans (b.mono hb5.size))).more (hb5.trans (b.mono hb5.size)).size) (by omega) hU sc3)
      have HLC := Lib.hid (fun w1 (b : Below w5.heap.size w5 w1) => law20_code nodes copies A n c K f t w1 (hT.below (hb5.trans (b.mono hb5.size))) ((HR.out.below (hb5.trans (b.mono hb5.size))).more (hb5.trans (b.mono hb5.size)).size) (by omega) hf ht)
      have HST := Lib.hid (fun w1 (b : Below w5.heap.size w5 w1) => ref20_Start A n c K i w1 ((HR.out.below (hb5.trans (b.mono hb5.size))).more (hb5.trans (b.mono hb5.size)).size) (by omega) h3.1 h3.2)
      rw [sc1, sc2] at HSPN
      obtain ⟨cv, hcv⟩ : ∃ cv, codeV K f t = cv := ⟨_, rfl⟩
      rw [hcv] at HSPN HLS HLC
      obtain ⟨sv, hsv⟩ : ∃ sv : Int, (if cv = 0 then ((rk K f : Nat) : Int) else 0) = sv := ⟨_, rfl⟩
      rw [hsv] at HSPN HLS
      unfold argS argK at HLS HLC
      clear hcv hsv sc1 sc2 sc3 HSP
      obtain ⟨st, hst⟩ : ∃ st, startT K i = st := ⟨_, rfl⟩
      rw [hst] at HST
      have BSS := Lib.hid (fun w1 (b : Below w5.heap.size w5 w1) => BS.below b BS.lt)
      have BKK := Lib.hid (fun w1 (b : Below w5.heap.size w5 w1) => BK.below b BK.lt)
      clear BS BK
      by_cases hi0 : i < 0
      · rw [bnd_out _ _ (.inl hi0)] at HBD
        clear hst
        go_wp2_with fail
        refine HBD.out.mono ?_
        rintro e w6 ⟨rfl, b6⟩
        have s2 := (BSS.out w6 b6).cell 2
        have k0 := (BKK.out w6 b6).cell 0
        have k1 := (BKK.out w6 b6).cell 1
        go_wp2_with fail
        refine (HSPN.out w6 b6).mono ?_
        rintro e w7 ⟨rfl, b7⟩
        have hb7 := b6.trans (b7.mono b6.size)
        clear s2 k0 k1
        have BS7 := BSS.out w7 hb7
        have BK7 := BKK.out w7 hb7
        have s0 := BS7.cell 0
        have s1 := BS7.cell 1
        have s2 := BS7.cell 2
        have k0 := BK7.cell 0
        have k1 := BK7.cell 1
        go_wp2_with fail
        refine (HLS.out w7 hb7).mono ?_
        rintro e w8 ⟨rfl, b8⟩
        have hb8 := hb7.trans (b8.mono hb7.size)
        replace BS7 := BSS.out w8 hb8
        replace BK7 := BKK.out w8 hb8
        replace s0 := BS7.cell 0
        replace s1 := BS7.cell 1
        replace s2 := BS7.cell 2
        replace k0 := BK7.cell 0
        replace k1 := BK7.cell 1
        go_wp2_with fail
        refine (HLC.out w8 hb8).mono ?_
        rintro e w9 ⟨rfl, b9⟩
        have hb9 := hb8.trans (b9.mono hb8.size)
        go_wp2_with fail
        refine (HAL.out w9 (hb5.trans (hb9.mono hb5.size))).mono ?_
        rintro e w10 ⟨rfl, b10⟩
        have hb10 := hb9.trans (b10.mono hb9.size)
        go_wp2_with fail
        go_ret
        exact ⟨rfl, HGG.out ▸ hb5.trans (hb10.mono hb5.size)⟩
      · by_cases hin : i > n
        · rw [bnd_out _ _ (.inr (by rw [List.length_cons]; have := HN.out; omega))] at HBD
          clear hst
          go_wp2_with fail
          refine HBD.out.mono ?_
          rintro e w6 ⟨rfl, b6⟩
          have s2 := (BSS.out w6 b6).cell 2
          have k0 := (BKK.out w6 b6).cell 0
          have k1 := (BKK.out w6 b6).cell 1
          go_wp2_with fail
          refine (HSPN.out w6 b6).mono ?_
          rintro e w7 ⟨rfl, b7⟩
          have hb7 := b6.trans (b7.mono b6.size)
          clear s2 k0 k1
          have BS7 := BSS.out w7 hb7
          have BK7 := BKK.out w7 hb7
          have s0 := BS7.cell 0
          have s1 := BS7.cell 1
          have s2 := BS7.cell 2
          have k0 := BK7.cell 0
          have k1 := BK7.cell 1
          go_wp2_with fail
          refine (HLS.out w7 hb7).mono ?_
          rintro e w8 ⟨rfl, b8⟩
          have hb8 := hb7.trans (b8.mono hb7.size)
          replace BS7 := BSS.out w8 hb8
          replace BK7 := BKK.out w8 hb8
          replace s0 := BS7.cell 0
          replace s1 := BS7.cell 1
          replace s2 := BS7.cell 2
          replace k0 := BK7.cell 0
          replace k1 := BK7.cell 1
          go_wp2_with fail
          refine (HLC.out w8 hb8).mono ?_
          rintro e w9 ⟨rfl, b9⟩
          have hb9 := hb8.trans (b9.mono hb8.size)
          go_wp2_with fail
          refine (HAL.out w9 (hb5.trans (hb9.mono hb5.size))).mono ?_
          rintro e w10 ⟨rfl, b10⟩
          have hb10 := hb9.trans (b10.mono hb9.size)
          go_wp2_with fail
          go_ret
          exact ⟨rfl, HGG.out ▸ hb5.trans (hb10.mono hb5.size)⟩
        · have hbi := bnd_in K i (by omega) (by have := HN.out; omega)
          rw [hst] at hbi
          have HST0 := Lib.hid hst
          clear hst
          by_cases hin2 : i < n
          · obtain ⟨m, hm⟩ : ∃ m : Nat, i = m := ⟨i.toNat, by omega⟩
            subst hm
            have hmK : m < K.length := by have := HN.out; omega
            obtain ⟨b, off, hAe, hb, hall⟩ := Reads.form HR.out (by omega)
            obtain ⟨x, hx⟩ : ∃ x, K[m]'hmK = x := ⟨_, rfl⟩
            have hget : K[m]? = some x := by rw [List.getElem?_eq_getElem hmK, hx]
            rw [Int.toNat_natCast, hget] at hbi
            have hbi2 : bndV (⟨#[]⟩ :: K) (m : Int) = .tuple #[.string st, .string x, .bool true] := hbi
            rw [hbi2] at HBD
            have e0 := Lib.hid (hall m (.string x) (by rw [List.getElem?_map, hget]; rfl))
            subst hAe
            clear hbi hbi2 hall hx hget
            go_wp2_with fail
            refine HBD.out.mono ?_
            rintro e w6 ⟨rfl, b6⟩
            have e1 := hb_cell (hb5.trans (b6.mono hb5.size)) e0.out
            have s2 := (BSS.out w6 b6).cell 2
            have k0 := (BKK.out w6 b6).cell 0
            have k1 := (BKK.out w6 b6).cell 1
            go_wp2_with fail
            refine (HST.out w6 b6).mono ?_
            rintro e w7 ⟨rfl, rfl⟩
            go_wp2_with fail
            refine (HSPN.out w6 b6).mono ?_
            rintro e w7 ⟨rfl, b7⟩
            have hb7 := b6.trans (b7.mono b6.size)
            clear s2 k0 k1
            have BS7 := BSS.out w7 hb7
            have BK7 := BKK.out w7 hb7
            have s0 := BS7.cell 0
            have s1 := BS7.cell 1
            have s2 := BS7.cell 2
            have k0 := BK7.cell 0
            have k1 := BK7.cell 1
            go_wp2_with fail
            refine (HLS.out w7 hb7).mono ?_
            rintro e w8 ⟨rfl, b8⟩
            have hb8 := hb7.trans (b8.mono hb7.size)
            replace BS7 := BSS.out w8 hb8
            replace BK7 := BKK.out w8 hb8
            replace s0 := BS7.cell 0
            replace s1 := BS7.cell 1
            replace s2 := BS7.cell 2
            replace k0 := BK7.cell 0
            replace k1 := BK7.cell 1
            go_wp2_with fail
            refine (HLC.out w8 hb8).mono ?_
            rintro e w9 ⟨rfl, b9⟩
            have hb9 := hb8.trans (b9.mono hb8.size)
            go_wp2_with fail
            refine (HAL.out w9 (hb5.trans (hb9.mono hb5.size))).mono ?_
            rintro e w10 ⟨rfl, b10⟩
            have hb10 := hb9.trans (b10.mono hb9.size)
            go_wp2_with fail
            go_ret
            exact ⟨rfl, HGG.out ▸ hb5.trans (hb10.mono hb5.size)⟩
          · have hine : i = n := by omega
            subst hine
            have hg0 : K[(n : Int).toNat]?.getD ⟨#[]⟩ = ⟨#[]⟩ := by rw [List.getElem?_eq_none (by have := HN.out; omega)]; rfl
            rw [hg0] at hbi
            rw [hbi] at HBD
            clear hbi hg0
            go_wp2_with fail
            refine HBD.out.mono ?_
            rintro e w6 ⟨rfl, b6⟩
            have s2 := (BSS.out w6 b6).cell 2
            have k0 := (BKK.out w6 b6).cell 0
            have k1 := (BKK.out w6 b6).cell 1
            go_wp2_with fail
            refine (HST.out w6 b6).mono ?_
            rintro e w7 ⟨rfl, rfl⟩
            go_wp2_with fail
            refine (HSPN.out w6 b6).mono ?_
            rintro e w7 ⟨rfl, b7⟩
            have hb7 := b6.trans (b7.mono b6.size)
            clear s2 k0 k1
            have BS7 := BSS.out w7 hb7
            have BK7 := BKK.out w7 hb7
            have s0 := BS7.cell 0
            have s1 := BS7.cell 1
            have s2 := BS7.cell 2
            have k0 := BK7.cell 0
            have k1 := BK7.cell 1
            go_wp2_with fail
            refine (HLS.out w7 hb7).mono ?_
            rintro e w8 ⟨rfl, b8⟩
            have hb8 := hb7.trans (b8.mono hb7.size)
            replace BS7 := BSS.out w8 hb8
            replace BK7 := BKK.out w8 hb8
            replace s0 := BS7.cell 0
            replace s1 := BS7.cell 1
            replace s2 := BS7.cell 2
            replace k0 := BK7.cell 0
            replace k1 := BK7.cell 1
            go_wp2_with fail
            refine (HLC.out w8 hb8).mono ?_
            rintro e w9 ⟨rfl, b9⟩
            have hb9 := hb8.trans (b9.mono hb8.size)
            go_wp2_with fail
            refine (HAL.out w9 (hb5.trans (hb9.mono hb5.size))).mono ?_
            rintro e w10 ⟨rfl, b10⟩
            have hb10 := hb9.trans (b10.mono hb9.size)
            go_wp2_with fail
            go_ret
            exact ⟨rfl, HGG.out ▸ hb5.trans (hb10.mono hb5.size)⟩
    · have HRI := Lib.hid hRI
      have hb3 := b2.trans (b3.mono hsz2)
      replace BS := BS.below b3 BS.lt
      replace s0 := BS.cell 0
      replace s1 := BS.cell 1
      replace s2 := BS.cell 2
      clear hRI BK
      go_wp2_with fail
      refine (HRT.out w3 hb3).mono ?_
      rintro e w4 ⟨q, rfl, hq, b4⟩
      have hqt : q = false := by
        cases q with
        | false => rfl
        | true => exact absurd (hq.1 rfl) HRI.out
      subst hqt
      have hb4 := hb3.trans (b4.mono hb3.size)
      clear hq
      go_wp2_with fail
      refine (HAL.out w4 hb4).mono ?_
      rintro e w5 ⟨rfl, b5⟩
      go_wp2_with fail
      go_ret
      exact ⟨rfl, HGG.out ▸ hb4.trans (b5.mono hb4.size)⟩
end Go.Proofs.YtncdchhpdbmfcaaDoor
