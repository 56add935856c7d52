/- Contracts of the law's code, span, alive. -/
import Derived.Test.YtncdchhpdbmfcaaDoorRngF
import Derived.Test.YtncdchhpdbmfcaaDoorRngG
import Derived.Test.YtncdchhpdbmfcaaDoorRngP
namespace Go.Proofs.YtncdchhpdbmfcaaDoor
open Go.RowKit Go.Sort
attribute [local go_sem] lt_T lo_T not_ltT not_leT

def apart2 (f t s : ByteArray) : Bool := ltT f s && ltT s t
/-- Why no range has all between two texts. -/
def codeV (K : List ByteArray) (f t : ByteArray) : Int :=
  if keyB f = false ∨ keyB t = false ∨ ltT f t = false then 201 else if K.any (apart2 f t) = true then 202 else 0
def argS (nodes copies : Int) (A : Option Addr) (n c : Nat) : Value := .agg #[.int .i64 nodes, .int .i64 copies, .slice A n c]
def argK (f t : ByteArray) : Value := .agg #[.string f, .string t]

set_option maxRecDepth 100000 in
set_option maxHeartbeats 4000000 in
theorem law20_code (nodes copies : Int) (A : Option Addr) (n c : Nat) (K : List ByteArray) (f t : ByteArray) (w : World) (hT : Tabs w) (hr : Reads w w.heap.size 1 A n (K.map Value.string)) (hn : n ≤ 1000000) (hf : f.size ≤ 70368744177664) (ht : t.size ≤ 70368744177664) :
    Calls Tryd.prog 25 #[argS nodes copies A n c, argK f t] w fun e w' => e = .returned (.int .i64 (codeV K f t)) ∧ Below w.heap.size w w' := by
  unfold argS argK
  have hN : K.length = n := by have := hr.1; simpa using this
  have HR := Lib.hid hr
  have HN := Lib.hid hN
  obtain ⟨w2, hw2⟩ : ∃ w2, (w.alloc (.cells #[.int .i64 nodes, .int .i64 copies, .slice A n c] 24)).alloc (.cells #[.string f, .string t] 41) = w2 := ⟨_, rfl⟩
  have b2 : Below w.heap.size w w2 := by rw [← hw2]; exact ((Below.refl _ _).alloc (Nat.le_refl _) _).alloc (by rw [World.size_alloc]; omega) _
  have BS : Blk w2 w.heap.size 24 #[.int .i64 nodes, .int .i64 copies, .slice A n c] := by rw [← hw2]; exact (Blk.new _ _ _).alloc _
  have BK : Blk w2 (w.heap.size + 1) 41 #[.string f, .string t] := by rw [← hw2, ← World.size_alloc w (.cells #[.int .i64 nodes, .int .i64 copies, .slice A n c] 24)]; exact Blk.new _ _ _
  have HA := Lib.hid (ref01_Key f hf w2 (hT.below b2))
  have HB := Lib.hid (fun w1 (b : Below w.heap.size w w1) => ref01_Key t ht w1 (hT.below b))
  have HW2 := Lib.hid hw2
  clear hr hN hw2
  have hsz2 := b2.size
  obtain ⟨g, hg⟩ : ∃ g, w.heap.size = g := ⟨_, rfl⟩
  have HGG := Lib.hid hg
  have s0 := BS.cell 0
  have s1 := BS.cell 1
  have s2 := BS.cell 2
  have k0 := BK.cell 0
  have k1 := BK.cell 1
  obtain ⟨ka, hka⟩ : ∃ k, keyB f = k := ⟨_, rfl⟩
  obtain ⟨kb, hkb⟩ : ∃ k, keyB t = k := ⟨_, rfl⟩
  rw [hka] at HA
  rw [hkb] at HB
  rw [hg] at BS BK s0 s1 s2 k0 k1
  clear s0 s1 s2
  cases ka with
  | false =>
    have HV : Hid (codeV K f t = 201) := Lib.hid (by unfold codeV; rw [if_pos (.inl hka)])
    rw [HV.out]
    clear hka hkb HB
    go_enter Tryd.func25, Tryd.ntmps25
    go_upto_region 1 with fail
    rw [HW2.out]
    go_wp2_with fail
    refine HA.out.mono ?_
    rintro e w1 ⟨rfl, b1⟩
    go_wp2_with fail
    go_ret
    exact ⟨rfl, b2.trans (b1.mono hsz2)⟩
  | true =>
    cases kb with
    | false =>
      have HV : Hid (codeV K f t = 201) := Lib.hid (by unfold codeV; rw [if_pos (.inr (.inl hkb))])
      rw [HV.out]
      clear hka hkb
      go_enter Tryd.func25, Tryd.ntmps25
      go_upto_region 1 with fail
      rw [HW2.out]
      go_wp2_with fail
      refine HA.out.mono ?_
      rintro e w1 ⟨rfl, b1⟩
      have BK1 := BK.below b1 BK.lt
      have b3 := b2.trans (b1.mono hsz2)
      replace k1 := BK1.cell 1
      clear k0
      go_wp2_with fail
      refine (HB.out w1 b3).mono ?_
      rintro e w3 ⟨rfl, b4⟩
      go_wp2_with fail
      go_ret
      exact ⟨rfl, b3.trans (b4.mono b3.size)⟩
    | true =>
      cases hq : ltT f t with
      | false =>
        have hq2 : leT t f = true := by rw [← not_ltT, hq]; rfl
        have HV : Hid (codeV K f t = 201) := Lib.hid (by unfold codeV; rw [if_pos (.inr (.inr hq))])
        rw [HV.out]
        clear hka hkb
        go_enter Tryd.func25, Tryd.ntmps25
        go_upto_region 1 with fail
        rw [HW2.out]
        go_wp2_with fail
        refine HA.out.mono ?_
        rintro e w1 ⟨rfl, b1⟩
        have BK1 := BK.below b1 BK.lt
        have b3 := b2.trans (b1.mono hsz2)
        replace k1 := BK1.cell 1
        replace k0 := BK1.cell 0
        go_wp2_with fail
        refine (HB.out w1 b3).mono ?_
        rintro e w3 ⟨rfl, b4⟩
        have BK3 := BK1.below b4 BK1.lt
        replace k1 := BK3.cell 1
        replace k0 := BK3.cell 0
        go_wp2_with fail
        go_ret
        exact ⟨rfl, b3.trans (b4.mono b3.size)⟩
      | true =>
        have hq2 : leT t f = false := by rw [← not_ltT, hq]; rfl
        have hV : codeV K f t = if K.any (apart2 f t) = true then 202 else 0 := by
          unfold codeV
          rw [if_neg (by rw [hka, hkb, hq]; simp)]
        have HV := Lib.hid hV
        clear hka hkb hV
        go_enter Tryd.func25, Tryd.ntmps25
        go_upto_region 1 with fail
        rw [HW2.out]
        go_wp2_with fail
        refine HA.out.mono ?_
        rintro e w1 ⟨rfl, b1⟩
        have BK1 := BK.below b1 BK.lt
        have BS1 := BS.below b1 BS.lt
        have b3 := b2.trans (b1.mono hsz2)
        replace k1 := BK1.cell 1
        replace k0 := BK1.cell 0
        go_wp2_with fail
        refine (HB.out w1 b3).mono ?_
        rintro e w3 ⟨rfl, b4⟩
        have BK3 := BK1.below b4 BK1.lt
        have BS3 := BS1.below b4 BS1.lt
        have b5 := b3.trans (b4.mono b3.size)
        replace k1 := BK3.cell 1
        replace k0 := BK3.cell 0
        clear b4 b3 b1 BK1 BS1 BK BS b2 hsz2
        go_wp2_with fail
        clear k0 k1
        go_loopw [5] (fun v5 wr => ∃ i : Nat, v5 = .int .i64 i ∧ i ≤ n ∧ (∀ s ∈ K.take i, apart2 f t s = false) ∧ Blk wr g 24 #[.int .i64 nodes, .int .i64 copies, .slice A n c] ∧ Blk wr (g + 1) 41 #[.string f, .string t] ∧ Below w.heap.size w wr) (fun v5 _ => n - (intOf v5).toNat)
        case atStart => exact ⟨0, rfl, Nat.zero_le _, by simp, BS3, BK3, b5⟩
        case round =>
          clear BS3 BK3 b5
          obtain ⟨i, rfl, hi, hs, BS, BK, hB⟩ := hrel
          have HS := Lib.hid hs
          have s2 := BS.cell 2
          clear hs
          by_cases hin : i < n
          · have hil : i < K.length := by have := HN.out; omega
            obtain ⟨b, off, rfl, hb, hc1⟩ := Reads.form HR.out (by omega)
            obtain ⟨x, hx⟩ : ∃ x, K[i]'hil = x := ⟨_, rfl⟩
            have e0 := cell_regrown (hb_cell hB (hc1 i (.string x) (by rw [List.getElem?_map, List.getElem?_eq_getElem hil, hx]; rfl)))
            have c2 := cell_regrown s2
            have c0 := cell_regrown (BK.cell 0)
            have c1 := cell_regrown (BK.cell 1)
            have HX := Lib.hid hx
            have HXM : Hid (x ∈ K) := Lib.hid (by rw [← hx]; exact List.getElem_mem hil)
            clear hc1 hx
            have hap : apart2 f t x = (ltT f x && ltT x t) := rfl
            have HAP := Lib.hid hap
            clear hap
            cases hq3 : ltT f x with
            | true =>
              cases hq4 : ltT x t with
              | true =>
                have HV2 : Hid (codeV K f t = 202) := Lib.hid (by rw [HV.out, if_pos (List.any_eq_true.2 ⟨x, HXM.out, by rw [HAP.out, hq3, hq4]; rfl⟩)])
                go_upto_region 6 with fail
                refine wp_region_quiet_below (by kernel_rfl) (by kernel_rfl) ?_
                repeat (go_big_quiet_step (fail))
                refine wpQuiet_nil ?_
                rintro w4 ⟨⟨dq, osq⟩, rfl⟩
                have bw := below_regrown wr dq osq
                clear c0 c1 c2 e0 s2
                go_wp2_with fail
                go_ret
                exact ⟨ret_int HV2.out.symm, hB.trans (bw.mono hB.size)⟩
              | false =>
                go_upto_region 6 with fail
                refine wp_region_quiet_below (by kernel_rfl) (by kernel_rfl) ?_
                repeat (go_big_quiet_step (fail))
                refine wpQuiet_nil ?_
                rintro w4 ⟨⟨dq, osq⟩, rfl⟩
                have bw := below_regrown wr dq osq
                clear c0 c1 c2 e0 s2
                go_wp2_with fail
                go_roundw
                case rel => exact ⟨i + 1, by go_num, hin, fun s hs => by
                  rw [List.take_succ_eq_append_getElem hil, HX.out] at hs
                  rcases List.mem_append.1 hs with hs | hs
                  · exact HS.out s hs
                  · rw [List.mem_singleton.1 hs, HAP.out]; simp [*], BS.below bw BS.lt, BK.below bw BK.lt, hB.trans (bw.mono hB.size)⟩
                case measure => simp [intOf]; omega
            | false =>
              go_upto_region 6 with fail
              refine wp_region_quiet_below (by kernel_rfl) (by kernel_rfl) ?_
              repeat (go_big_quiet_step (fail))
              refine wpQuiet_nil ?_
              rintro w4 ⟨⟨dq, osq⟩, rfl⟩
              have bw := below_regrown wr dq osq
              clear c0 c1 c2 e0 s2
              go_wp2_with fail
              go_roundw
              case rel => exact ⟨i + 1, by go_num, hin, fun s hs => by
                rw [List.take_succ_eq_append_getElem hil, HX.out] at hs
                rcases List.mem_append.1 hs with hs | hs
                · exact HS.out s hs
                · rw [List.mem_singleton.1 hs, HAP.out]; simp [*], BS.below bw BS.lt, BK.below bw BK.lt, hB.trans (bw.mono hB.size)⟩
              case measure => simp [intOf]; omega
          · have hF : K.any (apart2 f t) = false := by
              rw [List.any_eq_false]
              intro s hs
              have h := HS.out
              rw [List.take_of_length_le (by have := HN.out; omega)] at h
              rw [h s hs]
              decide
            have HV2 : Hid (codeV K f t = 0) := Lib.hid (by rw [HV.out, if_neg (by rw [hF]; decide)])
            clear hF
            go_wp2_with fail
            go_ret
            exact ⟨ret_int HV2.out.symm, hB⟩

set_option maxRecDepth 100000 in
theorem law20_span (nodes copies : Int) (A : Option Addr) (n c : Nat) (K : List ByteArray) (f t : ByteArray) (x : Int) (w : World) (hr : Reads w w.heap.size 1 A n (K.map Value.string)) (hn : n ≤ 1000000) (hU : UpT K) (hx : x = 0 ∨ x = 201 ∨ x = 202) :
    Calls Tryd.prog 24 #[argS nodes copies A n c, argK f t, .int .i64 x] w fun e w' => e = .returned (.int .i64 (if x = 0 then (rk K f : Nat) else 0)) ∧ Below w.heap.size w w' := by
  unfold argS argK
  obtain ⟨w2, hw2⟩ : ∃ w2, (w.alloc (.cells #[.int .i64 nodes, .int .i64 copies, .slice A n c] 24)).alloc (.cells #[.string f, .string t] 41) = w2 := ⟨_, rfl⟩
  have b2 : Below w.heap.size w w2 := by rw [← hw2]; exact ((Below.refl _ _).alloc (Nat.le_refl _) _).alloc (by rw [World.size_alloc]; omega) _
  have BS : Blk w2 w.heap.size 24 #[.int .i64 nodes, .int .i64 copies, .slice A n c] := by rw [← hw2]; exact (Blk.new _ _ _).alloc _
  have BK : Blk w2 (w.heap.size + 1) 41 #[.string f, .string t] := by rw [← hw2, ← World.size_alloc w (.cells #[.int .i64 nodes, .int .i64 copies, .slice A n c] 24)]; exact Blk.new _ _ _
  have HC := Lib.hid (ref20_Range A n c K f w2 ((hr.below b2).more b2.size) hn hU)
  have HW2 := Lib.hid hw2
  obtain ⟨r, hr0⟩ : ∃ r, rk K f = r := ⟨_, rfl⟩
  rw [hr0] at HC ⊢
  clear hr hw2 hr0 hU
  obtain ⟨g, hg⟩ : ∃ g, w.heap.size = g := ⟨_, rfl⟩
  have HGG := Lib.hid hg
  have s2 := BS.cell 2
  have k0 := BK.cell 0
  rw [hg] at BS BK s2 k0
  rcases hx with rfl | rfl | rfl
  · go_enter Tryd.func24, Tryd.ntmps24
    go_upto_region 1 with fail
    rw [HW2.out]
    go_wp2_with fail
    refine HC.out.mono ?_
    rintro e w1 ⟨rfl, rfl⟩
    go_wp2_with fail
    go_ret
    exact ⟨rfl, HGG.out ▸ b2⟩
  · go_enter Tryd.func24, Tryd.ntmps24
    go_upto_region 1 with fail
    rw [HW2.out]
    go_wp2_with fail
    go_ret
    exact ⟨rfl, HGG.out ▸ b2⟩
  · go_enter Tryd.func24, Tryd.ntmps24
    go_upto_region 1 with fail
    rw [HW2.out]
    go_wp2_with fail
    go_ret
    exact ⟨rfl, HGG.out ▸ b2⟩
end Go.Proofs.YtncdchhpdbmfcaaDoor
