/- Contract of the reference's Read. -/
import Derived.Test.YtimmfcbpdnlfjaaDoorStpJ
import Derived.Test.YtimmfcbpdnlfjaaDoorRnH
namespace Go.Proofs.YtimmfcbpdnlfjaaDoor
open Go.RowKit Go.Sort
set_option linter.unusedVariables false
set_option linter.unusedSimpArgs false

def refRV (l : List UInt8) : Value := match readP l with | some s => .tuple #[.agg (stpC s), .bool true] | none => .tuple #[.agg (stpC stpZ), .bool false]
theorem refP_len : ∀ (n : Nat) (l o : List UInt8), l.length ≤ n → refP l = some o → o.length ≤ l.length
  | n, [], o, _, h => by rw [refP_nil] at h; cases h
  | 0, c :: r, o, h, _ => by simp at h
  | n + 1, c :: r, o, hl, h => by
    rw [List.length_cons] at hl
    have go : ∀ (k : Nat) (x : UInt8), (refP (r.drop k)).map (x :: ·) = some o → o.length ≤ (c :: r).length := by
      intro k x hm
      cases hr : refP (r.drop k) with
      | none => rw [hr] at hm; cases hm
      | some o' =>
        rw [hr, Option.map_some] at hm
        injection hm with hm
        have := refP_len n (r.drop k) o' (by rw [List.length_drop]; omega) hr
        rw [List.length_drop] at this
        rw [← hm, List.length_cons, List.length_cons]
        omega
    rw [refP_cons] at h
    split at h
    · injection h with h
      rw [← h]
      simp
    · split at h
      · exact go 0 c (by rw [List.drop_zero]; exact h)
      · split at h
        · cases h
        · split at h
          · exact go 1 _ h
          · split at h
            · cases h
            · exact go 3 _ h
theorem refT_size (x : ByteArray) : (refT x).size ≤ x.size := by
  unfold refT
  have hb := bl_length x
  cases h : refP ((bl x).drop 1) with
  | none => exact Nat.zero_le _
  | some o =>
    have := refP_len _ _ _ (Nat.le_refl _) h
    rw [List.length_drop] at this
    show o.toArray.size ≤ _
    rw [List.size_toArray]
    omega
/-- A step whose texts are short. -/
def Sm (s : Stp) : Prop := s.key.size ≤ 1000 ∧ s.en.size ≤ 1000 ∧ s.val.size ≤ 1000
theorem Sm.take {s : Stp} (h : Sm s) (x : ByteArray) (m : Int) (p : Pt) (hx : x.size ≤ 1000) : Sm (refTake s x m p) := by
  have hr := Nat.le_trans (refT_size x) hx
  obtain ⟨h1, h2, h3⟩ := h
  cases p
  · exact ⟨h1, h2, h3⟩
  · exact ⟨h1, h2, h3⟩
  · exact ⟨h1, h2, h3⟩
  · exact ⟨h1, h2, h3⟩
  · exact ⟨h1, h2, h3⟩
  · exact ⟨hr, h2, h3⟩
  · exact ⟨h1, hr, h3⟩
  · exact ⟨h1, h2, hr⟩
theorem stpC_size (s : Stp) : (stpC s).size = 9 := rfl
theorem set9_eq {cs : Array Value} (h : cs.size = 9) (s2 : Stp) : (((((((((cs.setIfInBounds 0 (.int .i64 s2.kind)).setIfInBounds 1 (.int .i64 s2.n)).setIfInBounds 2 (.int .i64 s2.ticks)).setIfInBounds 3 (.int .i64 s2.tab)).setIfInBounds 4 (.int .i64 s2.lev)).setIfInBounds 5 (.string s2.key)).setIfInBounds 6 (.string s2.en)).setIfInBounds 7 (.string s2.val)).setIfInBounds 8 (.int .i64 s2.ctx)) = stpC s2 := by
  obtain ⟨a0, a1, a2, a3, a4, a5, a6, a7, a8, rfl⟩ : ∃ a0 a1 a2 a3 a4 a5 a6 a7 a8, cs = #[a0, a1, a2, a3, a4, a5, a6, a7, a8] := by
    obtain ⟨l⟩ := cs
    match l, h with
    | [a0, a1, a2, a3, a4, a5, a6, a7, a8], _ => exact ⟨a0, a1, a2, a3, a4, a5, a6, a7, a8, rfl⟩
  unfold stpC
  simp
theorem Blk.set9 {w : World} {g : Nat} {t : TypeId} {cs : Array Value} (h : Blk w g t cs) (hc : cs.size = 9) (s2 : Stp) :
    Blk (((((((((w.setCell ⟨g, 0, none⟩ (.int .i64 s2.kind)).setCell ⟨g, 1, none⟩ (.int .i64 s2.n)).setCell ⟨g, 2, none⟩ (.int .i64 s2.ticks)).setCell ⟨g, 3, none⟩ (.int .i64 s2.tab)).setCell ⟨g, 4, none⟩ (.int .i64 s2.lev)).setCell ⟨g, 5, none⟩ (.string s2.key)).setCell ⟨g, 6, none⟩ (.string s2.en)).setCell ⟨g, 7, none⟩ (.string s2.val)).setCell ⟨g, 8, none⟩ (.int .i64 s2.ctx)) g t (stpC s2) := by
  have := (((((((((h.set_ 0 (.int .i64 s2.kind)).set_ 1 (.int .i64 s2.n)).set_ 2 (.int .i64 s2.ticks)).set_ 3 (.int .i64 s2.tab)).set_ 4 (.int .i64 s2.lev)).set_ 5 (.string s2.key)).set_ 6 (.string s2.en)).set_ 7 (.string s2.val)).set_ 8 (.int .i64 s2.ctx))
  rwa [set9_eq hc] at this
theorem below9 {B g : Nat} {w v : World} (h : Below B w v) (hg : B ≤ g) (s2 : Stp) : Below B w (((((((((v.setCell ⟨g, 0, none⟩ (.int .i64 s2.kind)).setCell ⟨g, 1, none⟩ (.int .i64 s2.n)).setCell ⟨g, 2, none⟩ (.int .i64 s2.ticks)).setCell ⟨g, 3, none⟩ (.int .i64 s2.tab)).setCell ⟨g, 4, none⟩ (.int .i64 s2.lev)).setCell ⟨g, 5, none⟩ (.string s2.key)).setCell ⟨g, 6, none⟩ (.string s2.en)).setCell ⟨g, 7, none⟩ (.string s2.val)).setCell ⟨g, 8, none⟩ (.int .i64 s2.ctx)) := by
  exact (((((((((h.setCell (p := ⟨g, 0, none⟩) hg (.int .i64 s2.kind)).setCell (p := ⟨g, 1, none⟩) hg (.int .i64 s2.n)).setCell (p := ⟨g, 2, none⟩) hg (.int .i64 s2.ticks)).setCell (p := ⟨g, 3, none⟩) hg (.int .i64 s2.tab)).setCell (p := ⟨g, 4, none⟩) hg (.int .i64 s2.lev)).setCell (p := ⟨g, 5, none⟩) hg (.string s2.key)).setCell (p := ⟨g, 6, none⟩) hg (.string s2.en)).setCell (p := ⟨g, 7, none⟩) hg (.string s2.val)).setCell (p := ⟨g, 8, none⟩) hg (.int .i64 s2.ctx))
theorem joinF_len : ∀ (L : List (List UInt8)), (∀ y ∈ L, y.length ≤ 800) → (joinF L).length ≤ L.length * 801
  | [], _ => by simp [joinF]
  | a :: L, h => by
    have := joinF_len L fun y hy => h y (by simp [hy])
    have ha := h a (by simp)
    have e : joinF (a :: L) = 32 :: (a ++ joinF L) := rfl
    rw [e, List.length_cons, List.length_append, List.length_cons]
    omega

set_option maxRecDepth 100000 in
set_option maxHeartbeats 4000000 in
theorem ref40_Read (x : ByteArray) (w : World) (hx : x.size ≤ 1000000000) (hT : Tabs w) :
    Calls Tryd.prog 8 #[.string x] w fun e w' => e = .returned (refRV (bl x)) ∧ Below w.heap.size w w' := by
  obtain ⟨W, hW⟩ : ∃ W, w.alloc (.cells #[.int .i64 0, .int .i64 0, .int .i64 0, .int .i64 0, .int .i64 0, .string ⟨#[]⟩, .string ⟨#[]⟩, .string ⟨#[]⟩, .int .i64 0] 26) = W := ⟨_, rfl⟩
  have bW : Below w.heap.size w W := by rw [← hW]; exact (Below.refl _ _).alloc (Nat.le_refl _) _
  have BZ : Blk W w.heap.size 26 #[.int .i64 0, .int .i64 0, .int .i64 0, .int .i64 0, .int .i64 0, .string ⟨#[]⟩, .string ⟨#[]⟩, .string ⟨#[]⟩, .int .i64 0] := by rw [← hW]; exact Blk.new _ _ _
  have HT := Lib.hid (hT.below bW)
  clear hT
  have CF := fun (k : Int) (w : World) => ref40_word k w
  have CW := Lib.hid (ref01_Words x hx W)
  have HW := Lib.hid hW
  clear hW
  obtain ⟨L, hL⟩ : ∃ L, bl x = L := ⟨_, rfl⟩
  have hxl : L.length = x.size := by rw [← hL]; exact bl_length x
  have hxl2 : ∀ n : Nat, (n < L.length ↔ n < x.size) := fun n => by rw [hxl]
  rw [hL] at CW
  rw [hL]
  clear hL hxl
  obtain ⟨Ws, hWs⟩ : ∃ Ws, wordsP L = Ws := ⟨_, rfl⟩
  rw [hWs] at CW
  have HWS := Lib.hid hWs
  clear hWs
  go_enter Tryd.func8, Tryd.ntmps8
  go_upto_region 1 with fail
  rw [HW.out]
  clear HW
  go_wp2_with fail
  refine CW.out.mono ?_
  clear CW
  rintro e w1 ⟨v', rfl, o1, b1⟩
  obtain ⟨A, c, hv, hcn, hA0, hr⟩ := o1.reads
  subst hv
  replace BZ := BZ.below b1 BZ.lt
  replace HT := Lib.hid (HT.out.below b1)
  replace bW := bW.trans (b1.mono bW.size)
  clear b1 o1 hA0 hcn
  obtain ⟨n, hn⟩ : ∃ n, Ws.length = n := ⟨_, rfl⟩
  rw [hn] at hr ⊢
  have HN := Lib.hid hn
  have HR := Lib.hid hr
  clear hn hr
  by_cases hn0 : n = 0
  · subst hn0
    have FN := Lib.hid (readP_nil (l := L) (by rw [HWS.out]; exact List.eq_nil_of_length_eq_zero HN.out))
    have z0 : w1.cell? ⟨w.heap.size, 0, none⟩ = some (.int .i64 0) := BZ.cell 0
    have zf0 := BZ.frozen 0
    have z1 : w1.cell? ⟨w.heap.size, 1, none⟩ = some (.int .i64 0) := BZ.cell 1
    have zf1 := BZ.frozen 1
    have z2 : w1.cell? ⟨w.heap.size, 2, none⟩ = some (.int .i64 0) := BZ.cell 2
    have zf2 := BZ.frozen 2
    have z3 : w1.cell? ⟨w.heap.size, 3, none⟩ = some (.int .i64 0) := BZ.cell 3
    have zf3 := BZ.frozen 3
    have z4 : w1.cell? ⟨w.heap.size, 4, none⟩ = some (.int .i64 0) := BZ.cell 4
    have zf4 := BZ.frozen 4
    have z5 : w1.cell? ⟨w.heap.size, 5, none⟩ = some (.string ⟨#[]⟩) := BZ.cell 5
    have zf5 := BZ.frozen 5
    have z6 : w1.cell? ⟨w.heap.size, 6, none⟩ = some (.string ⟨#[]⟩) := BZ.cell 6
    have zf6 := BZ.frozen 6
    have z7 : w1.cell? ⟨w.heap.size, 7, none⟩ = some (.string ⟨#[]⟩) := BZ.cell 7
    have zf7 := BZ.frozen 7
    have z8 : w1.cell? ⟨w.heap.size, 8, none⟩ = some (.int .i64 0) := BZ.cell 8
    have zf8 := BZ.frozen 8
    go_wp2_with fail
    have zz := ((((((((((BZ.set_ 0 (.int .i64 0)).set_ 1 (.int .i64 0)).set_ 2 (.int .i64 0)).set_ 3 (.int .i64 0)).set_ 4 (.int .i64 0)).set_ 5 (.string ⟨#[]⟩)).set_ 6 (.string ⟨#[]⟩)).set_ 7 (.string ⟨#[]⟩)).set_ 8 (.int .i64 0))).cell
    replace bW := bW.setCell (p := ⟨w.heap.size, 0, none⟩) (by show w.heap.size ≤ w.heap.size; omega) (.int .i64 0)
    replace bW := bW.setCell (p := ⟨w.heap.size, 1, none⟩) (by show w.heap.size ≤ w.heap.size; omega) (.int .i64 0)
    replace bW := bW.setCell (p := ⟨w.heap.size, 2, none⟩) (by show w.heap.size ≤ w.heap.size; omega) (.int .i64 0)
    replace bW := bW.setCell (p := ⟨w.heap.size, 3, none⟩) (by show w.heap.size ≤ w.heap.size; omega) (.int .i64 0)
    replace bW := bW.setCell (p := ⟨w.heap.size, 4, none⟩) (by show w.heap.size ≤ w.heap.size; omega) (.int .i64 0)
    replace bW := bW.setCell (p := ⟨w.heap.size, 5, none⟩) (by show w.heap.size ≤ w.heap.size; omega) (.string ⟨#[]⟩)
    replace bW := bW.setCell (p := ⟨w.heap.size, 6, none⟩) (by show w.heap.size ≤ w.heap.size; omega) (.string ⟨#[]⟩)
    replace bW := bW.setCell (p := ⟨w.heap.size, 7, none⟩) (by show w.heap.size ≤ w.heap.size; omega) (.string ⟨#[]⟩)
    replace bW := bW.setCell (p := ⟨w.heap.size, 8, none⟩) (by show w.heap.size ≤ w.heap.size; omega) (.int .i64 0)
    exact bodyPost_ret (v := .tuple #[.agg #[.int .i64 0, .int .i64 0, .int .i64 0, .int .i64 0, .int .i64 0, .string ⟨#[]⟩, .string ⟨#[]⟩, .string ⟨#[]⟩, .int .i64 0], .bool false]) (by simp [results, Tryd.results8, go_sem, zz, stpC]) rfl ⟨(by unfold refRV; rw [FN.out]; rfl), bW⟩
  have hn1 : 0 < n := by omega
  have hnd : ((n : Int) == 0) = false := by simp; omega
  by_cases hlong : 800 < x.size
  · have hld : decide ((x.size : Int) > 800) = true := by simp; omega
    have FN := Lib.hid (readP_long (l := L) ((hxl2 800).2 hlong))
    have z0 : w1.cell? ⟨w.heap.size, 0, none⟩ = some (.int .i64 0) := BZ.cell 0
    have zf0 := BZ.frozen 0
    have z1 : w1.cell? ⟨w.heap.size, 1, none⟩ = some (.int .i64 0) := BZ.cell 1
    have zf1 := BZ.frozen 1
    have z2 : w1.cell? ⟨w.heap.size, 2, none⟩ = some (.int .i64 0) := BZ.cell 2
    have zf2 := BZ.frozen 2
    have z3 : w1.cell? ⟨w.heap.size, 3, none⟩ = some (.int .i64 0) := BZ.cell 3
    have zf3 := BZ.frozen 3
    have z4 : w1.cell? ⟨w.heap.size, 4, none⟩ = some (.int .i64 0) := BZ.cell 4
    have zf4 := BZ.frozen 4
    have z5 : w1.cell? ⟨w.heap.size, 5, none⟩ = some (.string ⟨#[]⟩) := BZ.cell 5
    have zf5 := BZ.frozen 5
    have z6 : w1.cell? ⟨w.heap.size, 6, none⟩ = some (.string ⟨#[]⟩) := BZ.cell 6
    have zf6 := BZ.frozen 6
    have z7 : w1.cell? ⟨w.heap.size, 7, none⟩ = some (.string ⟨#[]⟩) := BZ.cell 7
    have zf7 := BZ.frozen 7
    have z8 : w1.cell? ⟨w.heap.size, 8, none⟩ = some (.int .i64 0) := BZ.cell 8
    have zf8 := BZ.frozen 8
    go_wp2_with fail
    have zz := ((((((((((BZ.set_ 0 (.int .i64 0)).set_ 1 (.int .i64 0)).set_ 2 (.int .i64 0)).set_ 3 (.int .i64 0)).set_ 4 (.int .i64 0)).set_ 5 (.string ⟨#[]⟩)).set_ 6 (.string ⟨#[]⟩)).set_ 7 (.string ⟨#[]⟩)).set_ 8 (.int .i64 0))).cell
    replace bW := bW.setCell (p := ⟨w.heap.size, 0, none⟩) (by show w.heap.size ≤ w.heap.size; omega) (.int .i64 0)
    replace bW := bW.setCell (p := ⟨w.heap.size, 1, none⟩) (by show w.heap.size ≤ w.heap.size; omega) (.int .i64 0)
    replace bW := bW.setCell (p := ⟨w.heap.size, 2, none⟩) (by show w.heap.size ≤ w.heap.size; omega) (.int .i64 0)
    replace bW := bW.setCell (p := ⟨w.heap.size, 3, none⟩) (by show w.heap.size ≤ w.heap.size; omega) (.int .i64 0)
    replace bW := bW.setCell (p := ⟨w.heap.size, 4, none⟩) (by show w.heap.size ≤ w.heap.size; omega) (.int .i64 0)
    replace bW := bW.setCell (p := ⟨w.heap.size, 5, none⟩) (by show w.heap.size ≤ w.heap.size; omega) (.string ⟨#[]⟩)
    replace bW := bW.setCell (p := ⟨w.heap.size, 6, none⟩) (by show w.heap.size ≤ w.heap.size; omega) (.string ⟨#[]⟩)
    replace bW := bW.setCell (p := ⟨w.heap.size, 7, none⟩) (by show w.heap.size ≤ w.heap.size; omega) (.string ⟨#[]⟩)
    replace bW := bW.setCell (p := ⟨w.heap.size, 8, none⟩) (by show w.heap.size ≤ w.heap.size; omega) (.int .i64 0)
    exact bodyPost_ret (v := .tuple #[.agg #[.int .i64 0, .int .i64 0, .int .i64 0, .int .i64 0, .int .i64 0, .string ⟨#[]⟩, .string ⟨#[]⟩, .string ⟨#[]⟩, .int .i64 0], .bool false]) (by simp [results, Tryd.results8, go_sem, zz, stpC]) rfl ⟨(by unfold refRV; rw [FN.out]; rfl), bW⟩
  have hld : decide ((x.size : Int) > 800) = false := by simp; omega
  obtain ⟨w0, xs, hws⟩ : ∃ w0 xs, Ws = w0 :: xs := by
    cases Ws with
    | nil => have := HN.out; simp at this; omega
    | cons a t => exact ⟨a, t, rfl⟩
  subst hws
  have hxn : xs.length + 1 = n := by have := HN.out; rwa [List.length_cons] at this
  have HXN := Lib.hid hxn
  clear hxn
  obtain ⟨b, off, hA, hbg, hc⟩ := Reads.form HR.out hn1
  subst hA
  have HC := Lib.hid hc
  clear hc
  obtain ⟨K, hK⟩ : ∃ K, kindP w0 = K := ⟨_, rfl⟩
  have hKr : K = 0 ∨ (1 ≤ K ∧ K ≤ 17) := by rw [← hK]; exact kindP_range w0
  have HKf : ∀ j : Nat, j < 17 → ((formP ((j : Int) + 1)).1 = w0 ↔ K = (j : Int) + 1) := fun j hj => by rw [← hK]; exact kind_form _ (by omega) w0
  have HKK := Lib.hid hK
  clear hK
  have hlenL : ¬ 800 < L.length := fun h => hlong ((hxl2 800).1 h)
  have hys : ∀ y ∈ w0 :: xs, y.length ≤ 800 := fun y hy => by have := wordsP_len (l := L) (y := y) (by rw [HWS.out]; exact hy); omega
  obtain ⟨z, hz⟩ : ∃ z : ByteArray, (⟨w0.toArray⟩ : ByteArray) = z := ⟨_, rfl⟩
  have hz0 : ∀ w' : World, Below w1.heap.size w1 w' → w'.cell? ⟨b, off, none⟩ = some (.string z) := fun w' hb => by
    have := HC.out 0 (sv w0) (by simp)
    rw [Nat.add_zero] at this
    unfold sv at this
    rw [hz] at this
    rw [← this]
    exact hb.cell (p := ⟨b, off, none⟩) hbg
  have HZ := Lib.hid hz
  clear hz
  have HHY := Lib.hid hys
  have HHK := Lib.hid HKf
  have HZ0 := Lib.hid hz0
  have HLL := Lib.hid hlenL
  have HK0 : K = 0 → readP L = none := fun h => readP_kind HWS.out (HKK.out.trans h)
  have bw1 := BZ.lt
  have HST := Lib.hid (show K ≤ (0 : Nat) → readP L = none from fun h => HK0 (by omega))
  clear hys HKf hz0 hxl2 hlenL HK0
  go_wp2_with fail
  go_loopw [5, 6, 7, 8, 9] (fun v5 _ _ _ _ wr => ∃ j : Nat, v5 = .int .i64 ((j : Int) + 1) ∧ j ≤ 17 ∧ Below w1.heap.size w1 wr ∧ Hid (K ≤ j → readP L = none)) (fun v5 _ _ _ _ _ => 18 - (RowKit.intOf v5).toNat)
  case atStart => exact ⟨0, rfl, Nat.zero_le _, Below.refl _ _, HST⟩
  case round =>
    obtain ⟨j, rfl, hj, hb, HP0⟩ := hrel
    have hbw := hb.size
    by_cases hlt : j < 17
    · have hle : decide ((j : Int) + 1 ≤ 17) = true := by simp; omega
      have C1 := Lib.hid (CF ((j : Int) + 1) wr)
      clear CF
      obtain ⟨wo, hwo⟩ : ∃ wo, wo = wr := ⟨_, rfl⟩
      subst hwo
      obtain ⟨ps, hps⟩ : ∃ ps, (formP ((j : Int) + 1)).2 = ps := ⟨_, rfl⟩
      have hpl : ps.length ≤ 6 := by rw [← hps]; exact formP_len _
      obtain ⟨P, hP⟩ : ∃ P : ByteArray, (⟨(ps.map codeR).toArray⟩ : ByteArray) = P := ⟨_, rfl⟩
      have hsz : P.size = ps.length := by rw [← hP]; exact parts_size ps codeR
      have hP6 : P.size ≤ 6 := by omega
      have hat : ∀ (k : Nat) (h : k < ps.length) (w : World), (Instr.index 9 (.string P) (.int .i64 (k : Int))).run Tryd.prog w = .ok (.int .u8 ((codeR ps[k]).toNat : Int)) w := by
        intro k h w
        rw [index_at P k (by omega) w]
        subst hP
        rw [parts_get ps codeR k h]
      obtain ⟨y, hy⟩ : ∃ y : ByteArray, (⟨(formP ((j : Int) + 1)).1.toArray⟩ : ByteArray) = y := ⟨_, rfl⟩
      rw [hps, hP, hy] at C1
      have HPS := Lib.hid hps
      have hq1 : (y.toList == z.toList) = ((formP ((j : Int) + 1)).1 == w0) := by rw [← hy, ← HZ.out, words_eq]
      clear hP hy hps
      have q0 := HZ0.out wo hb
      by_cases hk : K = (j : Int) + 1
      case neg =>
        have hq2 : (y.toList == z.toList) = false := by rw [hq1, beq_eq_false_iff_ne]; exact fun h => hk ((HHK.out j hlt).1 h)
        have F : Hid (K ≤ (j + 1 : Nat) → readP L = none) := Lib.hid fun h => HP0.out (by omega)
        clear hq1 hk hat hsz
        go_wp2_with fail
        refine C1.out.mono ?_
        clear C1
        rintro e w' ⟨rfl, rfl⟩
        go_wp2_with fail
        go_roundw
        case rel => exact ⟨j + 1, by go_num, by omega, hb, F⟩
        case measure => simp [RowKit.intOf]; omega
      have hq2 : (y.toList == z.toList) = true := by rw [hq1, (HHK.out j hlt).2 hk]; exact beq_self_eq_true _
      have HKJ := Lib.hid hk
      clear hq1 hk
      by_cases hpn : n = ps.length + 1
      case neg =>
        have F : Hid (K ≤ (j + 1 : Nat) → readP L = none) := Lib.hid fun _ => readP_parts HWS.out (by rw [HKK.out, HKJ.out, HPS.out]; have := HXN.out; omega)
        have hpq : ((n : Int) != (P.size : Int) + 1) = true := by rw [bne_iff_ne]; omega
        clear hat hpn hsz
        go_wp2_with fail
        refine C1.out.mono ?_
        clear C1
        rintro e w' ⟨rfl, rfl⟩
        go_wp2_with fail
        go_roundw
        case rel => exact ⟨j + 1, by go_num, by omega, hb, F⟩
        case measure => simp [RowKit.intOf]; omega
      obtain ⟨m, hm⟩ : ∃ m, P.size = m := ⟨_, rfl⟩
      have HMP : Hid (ps.length = m) := Lib.hid (by rw [← hsz, hm])
      have hm6 : m ≤ 6 := by rw [← hm]; exact hP6
      have hpq : ((n : Int) != (m : Int) + 1) = false := by rw [bne_eq_false_iff_eq]; omega
      have hxp : xs.length = ps.length := by have := HXN.out; omega
      have HXP := Lib.hid hxp
      have HNM := Lib.hid hpn
      clear hpn hxp hsz hpl hP6
      have hnm : m < n := by have := HNM.out; have := HMP.out; omega
      have hn7 : n ≤ 7 := by have := HNM.out; have := HMP.out; omega
      have HGO : Hid (readP L = takesP (bareK ((j : Int) + 1)) ps xs) := Lib.hid (by
        have h := readP_go (l := L) HWS.out HLL.out (by rw [HKK.out, HKJ.out]; omega) (by rw [HKK.out, HKJ.out, HPS.out, HXP.out])
        rw [HKK.out, HKJ.out, HPS.out] at h
        exact h)
      go_wp2_with fail
      refine C1.out.mono ?_
      clear C1
      rintro e w' ⟨rfl, rfl⟩
      go_upto_region 10 with fail
      have bz : Below wo.heap.size wo (wo.alloc (.cells (stpC (bareK ((j : Int) + 1))) 26)) := (Below.refl _ _).alloc (Nat.le_refl _) _
      have BK : Blk (wo.alloc (.cells (stpC (bareK ((j : Int) + 1))) 26)) wo.heap.size 26 (stpC (bareK ((j : Int) + 1))) := Blk.new _ _ _
      have hW2 : wo.alloc (.cells #[.int .i64 ((j : Int) + 1), .int .i64 0, .int .i64 0, .int .i64 0, .int .i64 0, .string ⟨#[]⟩, .string ⟨#[]⟩, .string ⟨#[]⟩, .int .i64 (-1)] 26) = wo.alloc (.cells (stpC (bareK ((j : Int) + 1))) 26) := rfl
      rw [hW2]
      clear hW2
      generalize wo.alloc (.cells (stpC (bareK ((j : Int) + 1))) 26) = W3 at *
      have hSm : Sm (bareK ((j : Int) + 1)) := ⟨by show (0 : Nat) ≤ _; omega, by show (0 : Nat) ≤ _; omega, by show (0 : Nat) ≤ _; omega⟩
      go_wp2_with fail
      go_loopw [9] (fun v9 wr => ∃ (k : Nat) (s : Stp), v9 = .int .i64 k ∧ k ≤ m ∧ RefF (bareK ((j : Int) + 1)) (ps.take k) (xs.take k) s ∧ Sm s ∧ Blk wr wo.heap.size 26 (stpC s) ∧ Below wo.heap.size wo wr) (fun v9 _ => m - (RowKit.intOf v9).toNat)
      case atStart => exact ⟨0, _, rfl, Nat.zero_le _, .nil, hSm, BK, bz⟩
      case round =>
        obtain ⟨k, s, rfl, hk, hRF, hS, hBs, hbs⟩ := hrel
        have HRF := Lib.hid hRF
        have hgl := hBs.lt
        by_cases hkl : k < m
        · have hkp : k < ps.length := by rw [HMP.out]; exact hkl
          have hkx : k < xs.length := by rw [HXP.out]; exact hkp
          have hx2 := hat k hkp
          clear hat
          have HTP := Lib.hid (List.take_succ_eq_append_getElem hkp)
          have HTX := Lib.hid (List.take_succ_eq_append_getElem hkx)
          obtain ⟨p, hp⟩ : ∃ p, ps[k] = p := ⟨_, rfl⟩
          rw [hp] at hx2 HTP
          obtain ⟨xk, hxk⟩ : ∃ xk, xs[k] = xk := ⟨_, rfl⟩
          obtain ⟨y2, hy⟩ : ∃ y : ByteArray, (⟨xs[k].toArray⟩ : ByteArray) = y := ⟨_, rfl⟩
          have hyb : bl y2 = xk := by rw [← hy, hxk]; rfl
          have hysz : y2.size ≤ 1000 := by
            have h1 := HHY.out xs[k] (List.mem_cons_of_mem _ (List.getElem_mem hkx))
            have h2 : y2.size = (bl y2).length := (bl_length y2).symm
            rw [h2, ← hy, bl_to]
            omega
          have q1 : ∀ p : Kept (· < wo.heap.size) wr.drew, p.v.cell? ⟨b, off + (k + 1), none⟩ = some (.string y2) := fun p => p.h.cell (by show b < _; omega) (by
            have := HC.out (k + 1) (sv xs[k]) (by simp [hkx])
            unfold sv at this
            rw [hy] at this
            rw [← this, ← hb.cell (p := ⟨b, off + (k + 1), none⟩) hbg]
            exact hbs.cell (p := ⟨b, off + (k + 1), none⟩) (by show b < _; omega))
          rw [hxk] at HTX
          have HY := Lib.hid hy
          have HYB := Lib.hid hyb
          have CT := Lib.hid (ref40_take s p y2 wr.drew ((HT.out.below hb).below hbs.drew) hysz)
          have hBd := hBs.drew
          have c0 : wr.drew.cell? ⟨wo.heap.size, 0, none⟩ = some (.int .i64 s.kind) := hBd.cell 0
          have c1 : wr.drew.cell? ⟨wo.heap.size, 1, none⟩ = some (.int .i64 s.n) := hBd.cell 1
          have c2 : wr.drew.cell? ⟨wo.heap.size, 2, none⟩ = some (.int .i64 s.ticks) := hBd.cell 2
          have c3 : wr.drew.cell? ⟨wo.heap.size, 3, none⟩ = some (.int .i64 s.tab) := hBd.cell 3
          have c4 : wr.drew.cell? ⟨wo.heap.size, 4, none⟩ = some (.int .i64 s.lev) := hBd.cell 4
          have c5 : wr.drew.cell? ⟨wo.heap.size, 5, none⟩ = some (.string s.key) := hBd.cell 5
          have c6 : wr.drew.cell? ⟨wo.heap.size, 6, none⟩ = some (.string s.en) := hBd.cell 6
          have c7 : wr.drew.cell? ⟨wo.heap.size, 7, none⟩ = some (.string s.val) := hBd.cell 7
          have c8 : wr.drew.cell? ⟨wo.heap.size, 8, none⟩ = some (.int .i64 s.ctx) := hBd.cell 8
          clear hRF hp hxk hy hyb q0
          go_upto_region 13 with fail
          unfold stpC at CT
          refine wp_region_mixL (· < wo.heap.size) [0] [1, 2, 3, 4, 5, 6, 7, 8, 0, 9, 10] (by kernel_rfl) (by kernel_rfl) ?_
          iterate 8 (refine mix_calmL rfl rfl ?_; go_big_quiet_step (fail); refine wpQuiet_nil ?_)
          clear q1 hx2
          refine mix_loudL rfl (by kernel_rfl) ?_
          intro K1 hK1
          have HK := Lib.hid hK1
          clear hK1
          go_wp2_with fail
          refine HK.out _ _ (Stand.refl _ _) ?_
          clear HK c0 c1 c2 c3 c4 c5 c6 c7 c8
          refine mix_loudL rfl (by kernel_rfl) ?_
          intro K1 hK1
          have HK := Lib.hid hK1
          clear hK1
          go_wp2_with fail
          refine CT.out.mono ?_
          clear CT
          rintro e w3 ⟨mm, hmm, rfl, b3⟩
          go_wp2_with fail
          refine HK.out _ _ (Stand.of_below b3) ?_
          clear HK
          have hB3 := hBd.below b3 hBd.lt
          have hb3 := hbs.drew.trans (b3.mono (Nat.le_of_lt hBd.lt))
          have HS2 := Lib.hid (RefF.snoc _ _ _ p xk mm HRF.out (by rw [← HYB.out]; exact hmm))
          have hS2 := hS.take y2 mm p hysz
          have hyt : (⟨xk.toArray⟩ : ByteArray) = y2 := by rw [← HYB.out]; rfl
          rw [hyt] at HS2
          obtain ⟨s2, hs2⟩ : ∃ s2, refTake s y2 mm p = s2 := ⟨_, rfl⟩
          rw [hs2] at HS2 hS2 ⊢
          clear hs2 hmm hyt hBd b3 hbs hBs hS hgl
          have hgl := hB3.lt
          have d0 : w3.cell? ⟨wo.heap.size, 0, none⟩ = some (.int .i64 s.kind) := hB3.cell 0
          have df0 := hB3.frozen 0
          have d1 : w3.cell? ⟨wo.heap.size, 1, none⟩ = some (.int .i64 s.n) := hB3.cell 1
          have df1 := hB3.frozen 1
          have d2 : w3.cell? ⟨wo.heap.size, 2, none⟩ = some (.int .i64 s.ticks) := hB3.cell 2
          have df2 := hB3.frozen 2
          have d3 : w3.cell? ⟨wo.heap.size, 3, none⟩ = some (.int .i64 s.tab) := hB3.cell 3
          have df3 := hB3.frozen 3
          have d4 : w3.cell? ⟨wo.heap.size, 4, none⟩ = some (.int .i64 s.lev) := hB3.cell 4
          have df4 := hB3.frozen 4
          have d5 : w3.cell? ⟨wo.heap.size, 5, none⟩ = some (.string s.key) := hB3.cell 5
          have df5 := hB3.frozen 5
          have d6 : w3.cell? ⟨wo.heap.size, 6, none⟩ = some (.string s.en) := hB3.cell 6
          have df6 := hB3.frozen 6
          have d7 : w3.cell? ⟨wo.heap.size, 7, none⟩ = some (.string s.val) := hB3.cell 7
          have df7 := hB3.frozen 7
          have d8 : w3.cell? ⟨wo.heap.size, 8, none⟩ = some (.int .i64 s.ctx) := hB3.cell 8
          have df8 := hB3.frozen 8
          refine mix_loudL rfl (by kernel_rfl) ?_
          intro K1 hK1
          have HK := Lib.hid hK1
          clear hK1
          go_wp2_with fail
          have hB4 := hB3.set9 (stpC_size s) s2
          have hb4 := below9 (Below.refl wo.heap.size w3) (Nat.le_refl _) s2
          refine HK.out _ _ ⟨hb4.os, hb4.tape, hb4.output, hb4.size, fun k _ hs => hb4.block k hs⟩ ?_
          clear HK
          refine mix_endL ?_
          have hb5 := hb3.trans hb4
          go_wp2_with fail
          go_roundw
          case rel => exact ⟨k + 1, s2, by go_num, hkl, by rw [HTP.out, HTX.out]; exact HS2.out, hS2, hB4, hb5⟩
          case measure => simp [RowKit.intOf]; omega
        · have hke : k = m := by omega
          subst hke
          clear hkl hk hat q0
          have hkj : (formP ((j : Int) + 1)).1 = w0 := (HHK.out j hlt).2 HKJ.out
          rw [List.take_of_length_le (by rw [HMP.out]; exact Nat.le_refl _), List.take_of_length_le (by rw [HXP.out, HMP.out]; exact Nat.le_refl _)] at hRF
          have hRL := read_line ((j : Int) + 1) (by omega) L xs (by rw [HWS.out, hkj]) s (by rw [HPS.out]; exact hRF)
          rw [HPS.out, HWS.out] at hRL
          have HRL := Lib.hid hRL
          have CL := Lib.hid (ref40_Line s wr (by obtain ⟨a1, a2, a3⟩ := hS; exact ⟨by omega, by omega, by omega⟩) ((HT.out.below hb).below hbs))
          have hbr := hb.trans (hbs.mono hbw)
          have CJ := Lib.hid (fun (w' : World) (hb' : Below w1.heap.size w1 w') => ref40_join (some ⟨b, off, none⟩) n c (w0 :: xs) w' ((HR.out.below hb').more hb'.size) (by have h1 := joinF_len (w0 :: xs) HHY.out; rw [HN.out] at h1; omega) (by omega))
          have HEQ := Lib.hid (words_eq (lineP s) (joinW (w0 :: xs)))
          obtain ⟨y3, hy3⟩ : ∃ y : ByteArray, (⟨(lineP s).toArray⟩ : ByteArray) = y := ⟨_, rfl⟩
          obtain ⟨z3, hz3⟩ : ∃ y : ByteArray, (⟨(joinW (w0 :: xs)).toArray⟩ : ByteArray) = y := ⟨_, rfl⟩
          rw [hy3] at CL HEQ
          simp only [hz3] at CJ
          rw [hz3] at HEQ
          clear hy3 hz3
          have c0 : wr.cell? ⟨wo.heap.size, 0, none⟩ = some (.int .i64 s.kind) := hBs.cell 0
          have c1 : wr.cell? ⟨wo.heap.size, 1, none⟩ = some (.int .i64 s.n) := hBs.cell 1
          have c2 : wr.cell? ⟨wo.heap.size, 2, none⟩ = some (.int .i64 s.ticks) := hBs.cell 2
          have c3 : wr.cell? ⟨wo.heap.size, 3, none⟩ = some (.int .i64 s.tab) := hBs.cell 3
          have c4 : wr.cell? ⟨wo.heap.size, 4, none⟩ = some (.int .i64 s.lev) := hBs.cell 4
          have c5 : wr.cell? ⟨wo.heap.size, 5, none⟩ = some (.string s.key) := hBs.cell 5
          have c6 : wr.cell? ⟨wo.heap.size, 6, none⟩ = some (.string s.en) := hBs.cell 6
          have c7 : wr.cell? ⟨wo.heap.size, 7, none⟩ = some (.string s.val) := hBs.cell 7
          have c8 : wr.cell? ⟨wo.heap.size, 8, none⟩ = some (.int .i64 s.ctx) := hBs.cell 8
          clear hRF hRL hkj
          unfold stpC at CL
          cases ht : takesP (bareK ((j : Int) + 1)) ps xs with
          | none =>
            have hq3 : (y3.toList == z3.toList) = false := by rw [HEQ.out, beq_eq_false_iff_ne]; exact HRL.out.2 ht
            have F : Hid (K ≤ (j + 1 : Nat) → readP L = none) := Lib.hid fun _ => by rw [HGO.out]; exact ht
            clear ht
            go_wp2_with fail
            refine CL.out.mono ?_
            clear CL
            rintro e w3 ⟨rfl, b3⟩
            have hb3 := hbr.trans (b3.mono hbr.size)
            go_wp2_with fail
            refine (CJ.out w3 hb3).mono ?_
            clear CJ
            rintro e w4 ⟨rfl, rfl⟩
            go_wp2_with fail
            go_roundw
            case rel => exact ⟨j + 1, by go_num, by omega, hb3, F⟩
            case measure => simp [RowKit.intOf]; omega
          | some s2 =>
            obtain ⟨hss, hle2⟩ := HRL.out.1 s2 ht
            have hq3 : (y3.toList == z3.toList) = true := by rw [HEQ.out, hle2]; exact beq_self_eq_true _
            have FN : Hid (readP L = some s) := Lib.hid (by rw [HGO.out, ht, hss])
            clear ht hss hle2
            go_wp2_with fail
            refine CL.out.mono ?_
            clear CL
            rintro e w3 ⟨rfl, b3⟩
            have hb3 := hbr.trans (b3.mono hbr.size)
            have hB3 := hBs.below b3 hBs.lt
            go_wp2_with fail
            refine (CJ.out w3 hb3).mono ?_
            clear CJ
            rintro e w4 ⟨rfl, rfl⟩
            have BZ3 := BZ.below hb3 bw1
            have bW3 := bW.trans (hb3.mono (Nat.le_of_lt bw1))
            clear c0 c1 c2 c3 c4 c5 c6 c7 c8
            have g0 : w3.cell? ⟨wo.heap.size, 0, none⟩ = some (.int .i64 s.kind) := hB3.cell 0
            have g1 : w3.cell? ⟨wo.heap.size, 1, none⟩ = some (.int .i64 s.n) := hB3.cell 1
            have g2 : w3.cell? ⟨wo.heap.size, 2, none⟩ = some (.int .i64 s.ticks) := hB3.cell 2
            have g3 : w3.cell? ⟨wo.heap.size, 3, none⟩ = some (.int .i64 s.tab) := hB3.cell 3
            have g4 : w3.cell? ⟨wo.heap.size, 4, none⟩ = some (.int .i64 s.lev) := hB3.cell 4
            have g5 : w3.cell? ⟨wo.heap.size, 5, none⟩ = some (.string s.key) := hB3.cell 5
            have g6 : w3.cell? ⟨wo.heap.size, 6, none⟩ = some (.string s.en) := hB3.cell 6
            have g7 : w3.cell? ⟨wo.heap.size, 7, none⟩ = some (.string s.val) := hB3.cell 7
            have g8 : w3.cell? ⟨wo.heap.size, 8, none⟩ = some (.int .i64 s.ctx) := hB3.cell 8
            have z0 : w3.cell? ⟨w.heap.size, 0, none⟩ = some (.int .i64 0) := BZ3.cell 0
            have zf0 := BZ3.frozen 0
            have z1 : w3.cell? ⟨w.heap.size, 1, none⟩ = some (.int .i64 0) := BZ3.cell 1
            have zf1 := BZ3.frozen 1
            have z2 : w3.cell? ⟨w.heap.size, 2, none⟩ = some (.int .i64 0) := BZ3.cell 2
            have zf2 := BZ3.frozen 2
            have z3 : w3.cell? ⟨w.heap.size, 3, none⟩ = some (.int .i64 0) := BZ3.cell 3
            have zf3 := BZ3.frozen 3
            have z4 : w3.cell? ⟨w.heap.size, 4, none⟩ = some (.int .i64 0) := BZ3.cell 4
            have zf4 := BZ3.frozen 4
            have z5 : w3.cell? ⟨w.heap.size, 5, none⟩ = some (.string ⟨#[]⟩) := BZ3.cell 5
            have zf5 := BZ3.frozen 5
            have z6 : w3.cell? ⟨w.heap.size, 6, none⟩ = some (.string ⟨#[]⟩) := BZ3.cell 6
            have zf6 := BZ3.frozen 6
            have z7 : w3.cell? ⟨w.heap.size, 7, none⟩ = some (.string ⟨#[]⟩) := BZ3.cell 7
            have zf7 := BZ3.frozen 7
            have z8 : w3.cell? ⟨w.heap.size, 8, none⟩ = some (.int .i64 0) := BZ3.cell 8
            have zf8 := BZ3.frozen 8
            clear hB3
            go_wp2_with fail
            have zz := ((((((((((BZ3.set_ 0 (.int .i64 s.kind)).set_ 1 (.int .i64 s.n)).set_ 2 (.int .i64 s.ticks)).set_ 3 (.int .i64 s.tab)).set_ 4 (.int .i64 s.lev)).set_ 5 (.string s.key)).set_ 6 (.string s.en)).set_ 7 (.string s.val)).set_ 8 (.int .i64 s.ctx))).cell
            replace bW3 := bW3.setCell (p := ⟨w.heap.size, 0, none⟩) (by show w.heap.size ≤ w.heap.size; omega) (.int .i64 s.kind)
            replace bW3 := bW3.setCell (p := ⟨w.heap.size, 1, none⟩) (by show w.heap.size ≤ w.heap.size; omega) (.int .i64 s.n)
            replace bW3 := bW3.setCell (p := ⟨w.heap.size, 2, none⟩) (by show w.heap.size ≤ w.heap.size; omega) (.int .i64 s.ticks)
            replace bW3 := bW3.setCell (p := ⟨w.heap.size, 3, none⟩) (by show w.heap.size ≤ w.heap.size; omega) (.int .i64 s.tab)
            replace bW3 := bW3.setCell (p := ⟨w.heap.size, 4, none⟩) (by show w.heap.size ≤ w.heap.size; omega) (.int .i64 s.lev)
            replace bW3 := bW3.setCell (p := ⟨w.heap.size, 5, none⟩) (by show w.heap.size ≤ w.heap.size; omega) (.string s.key)
            replace bW3 := bW3.setCell (p := ⟨w.heap.size, 6, none⟩) (by show w.heap.size ≤ w.heap.size; omega) (.string s.en)
            replace bW3 := bW3.setCell (p := ⟨w.heap.size, 7, none⟩) (by show w.heap.size ≤ w.heap.size; omega) (.string s.val)
            replace bW3 := bW3.setCell (p := ⟨w.heap.size, 8, none⟩) (by show w.heap.size ≤ w.heap.size; omega) (.int .i64 s.ctx)
            exact bodyPost_ret (v := .tuple #[.agg (stpC s), .bool true]) (by simp [results, Tryd.results8, go_sem, zz, stpC]) rfl ⟨(by unfold refRV; rw [FN.out]), bW3⟩
    · have hj17 : j = 17 := by omega
      subst hj17
      have FN := Lib.hid (HP0.out (by omega))
      rw [show (((17 : Nat) : Int) + 1) = 18 from rfl]
      have BZo := BZ.below hb bw1
      have bWo := bW.trans (hb.mono (Nat.le_of_lt bw1))
      have z0 : wr.cell? ⟨w.heap.size, 0, none⟩ = some (.int .i64 0) := BZo.cell 0
      have zf0 := BZo.frozen 0
      have z1 : wr.cell? ⟨w.heap.size, 1, none⟩ = some (.int .i64 0) := BZo.cell 1
      have zf1 := BZo.frozen 1
      have z2 : wr.cell? ⟨w.heap.size, 2, none⟩ = some (.int .i64 0) := BZo.cell 2
      have zf2 := BZo.frozen 2
      have z3 : wr.cell? ⟨w.heap.size, 3, none⟩ = some (.int .i64 0) := BZo.cell 3
      have zf3 := BZo.frozen 3
      have z4 : wr.cell? ⟨w.heap.size, 4, none⟩ = some (.int .i64 0) := BZo.cell 4
      have zf4 := BZo.frozen 4
      have z5 : wr.cell? ⟨w.heap.size, 5, none⟩ = some (.string ⟨#[]⟩) := BZo.cell 5
      have zf5 := BZo.frozen 5
      have z6 : wr.cell? ⟨w.heap.size, 6, none⟩ = some (.string ⟨#[]⟩) := BZo.cell 6
      have zf6 := BZo.frozen 6
      have z7 : wr.cell? ⟨w.heap.size, 7, none⟩ = some (.string ⟨#[]⟩) := BZo.cell 7
      have zf7 := BZo.frozen 7
      have z8 : wr.cell? ⟨w.heap.size, 8, none⟩ = some (.int .i64 0) := BZo.cell 8
      have zf8 := BZo.frozen 8
      clear hlt hj CF hb BZ
      go_wp2_with fail
      have zz := ((((((((((BZo.set_ 0 (.int .i64 0)).set_ 1 (.int .i64 0)).set_ 2 (.int .i64 0)).set_ 3 (.int .i64 0)).set_ 4 (.int .i64 0)).set_ 5 (.string ⟨#[]⟩)).set_ 6 (.string ⟨#[]⟩)).set_ 7 (.string ⟨#[]⟩)).set_ 8 (.int .i64 0))).cell
      replace bWo := bWo.setCell (p := ⟨w.heap.size, 0, none⟩) (by show w.heap.size ≤ w.heap.size; omega) (.int .i64 0)
      replace bWo := bWo.setCell (p := ⟨w.heap.size, 1, none⟩) (by show w.heap.size ≤ w.heap.size; omega) (.int .i64 0)
      replace bWo := bWo.setCell (p := ⟨w.heap.size, 2, none⟩) (by show w.heap.size ≤ w.heap.size; omega) (.int .i64 0)
      replace bWo := bWo.setCell (p := ⟨w.heap.size, 3, none⟩) (by show w.heap.size ≤ w.heap.size; omega) (.int .i64 0)
      replace bWo := bWo.setCell (p := ⟨w.heap.size, 4, none⟩) (by show w.heap.size ≤ w.heap.size; omega) (.int .i64 0)
      replace bWo := bWo.setCell (p := ⟨w.heap.size, 5, none⟩) (by show w.heap.size ≤ w.heap.size; omega) (.string ⟨#[]⟩)
      replace bWo := bWo.setCell (p := ⟨w.heap.size, 6, none⟩) (by show w.heap.size ≤ w.heap.size; omega) (.string ⟨#[]⟩)
      replace bWo := bWo.setCell (p := ⟨w.heap.size, 7, none⟩) (by show w.heap.size ≤ w.heap.size; omega) (.string ⟨#[]⟩)
      replace bWo := bWo.setCell (p := ⟨w.heap.size, 8, none⟩) (by show w.heap.size ≤ w.heap.size; omega) (.int .i64 0)
      exact bodyPost_ret (v := .tuple #[.agg #[.int .i64 0, .int .i64 0, .int .i64 0, .int .i64 0, .int .i64 0, .string ⟨#[]⟩, .string ⟨#[]⟩, .string ⟨#[]⟩, .int .i64 0], .bool false]) (by simp [results, Tryd.results8, go_sem, zz, stpC]) rfl ⟨(by unfold refRV; rw [FN.out]; rfl), bWo⟩
end Go.Proofs.YtimmfcbpdnlfjaaDoor
