/- Contract of a pattern's Match. -/
import Derived.Test.YtedegdojbhegdaaDoorGloE
namespace Go.Proofs.YtedegdojbhegdaaDoor
open Go.RowKit Go.Sort

theorem made_bools {w2 : World} {base g n : Nat} (O2 : w2.ownsRow base 4 1 (.slice (some ⟨g, 0, none⟩) n n) n (madeCells (Value.bool false).cells (n * 1)).toList) : OwnB w2 base (.slice (some ⟨g, 0, none⟩) n n) (bl_ n (fun _ => false)) := by
  rw [bl_false]
  unfold OwnB
  rw [List.length_replicate, List.map_replicate]
  have h9 := O2
  rw [show (Value.bool false).cells = #[.bool false] from rfl, toList_madeCells_one, Nat.mul_one] at h9
  exact h9
theorem St_first (P : List Part) (T : List Nat) (n : Nat) : bl_ n (skF (rowP P) (fun i => decide (i = 0))) = bl_ n (St P T 0) := bl_congr fun i _ => St_zero P T i

set_option maxRecDepth 100000 in
set_option maxHeartbeats 4000000 in
theorem glob_Match (A : Option Addr) (n c : Nat) (t s : ByteArray) (L : List PS) (w : World) (hp : PatR psL 4 w w.heap.size A n L) (hn : n ≤ 1000) :
    Calls Tryd.prog 20 #[.agg #[.slice A n c, .string t], .string s] w fun x w' => x = .returned (.bool (matchP (L.map PS.p) (rest s 0))) ∧ Below w.heap.size w w' := by
  have hl := hp.n_eq
  have BP := Blk.new w 35 #[.slice A n c, .string t]
  have hB : Below w.heap.size w (w.alloc (.cells #[.slice A n c, .string t] 35)) := (Below.refl _ _).alloc (Nat.le_refl _) _
  obtain ⟨i0, hi, hz0, hz1, hz2⟩ := info_parts info_bool
  have HP := Lib.hid hp
  have HL := Lib.hid hl
  have HZ := Lib.hid (And.intro hi (And.intro hz0 (And.intro hz1 hz2)))
  have q0 := BP.cell 0
  have q1 := BP.cell 1
  obtain ⟨T, hT⟩ : ∃ T, rest s 0 = T := ⟨_, rfl⟩
  rw [hT]
  have HT := Lib.hid hT
  obtain ⟨P, hP⟩ : ∃ P, L.map PS.p = P := ⟨_, rfl⟩
  rw [hP]
  have HPe := Lib.hid hP
  have hPl : P.length = n := by rw [← hP, List.length_map]; exact hl
  have HPl := Lib.hid hPl
  clear hP hPl hT
  clear hp hl hi hz0 hz1 hz2
  go_enter Tryd.func20, Tryd.ntmps20
  go_upto_region 3 with (at_make; refine wpList_make_full _ rfl _ _ 83 rfl (w.heap.size + 1) 4 i0 (.bool false) 1 Tryd.underlying83 HZ.out.1 HZ.out.2.1 HZ.out.2.2.1 .i64 .i64 _ _ (n + 1) rfl rfl (by omega) (by omega) (by rw [HZ.out.2.2.2]; omega) (by unfold maxLen; omega) (by simp) ?_; intro w2 O2 G2; have O3 := made_bools O2; simp only [World.size_alloc] at O3; have fz := OwnB.frozen_at O3 0; have cz := ob_at O3 0 (by omega))
  have O4 := OwnB.set_at O3 0 true
  rw [bl_set, bl_congr (g := fun i => decide (i = 0)) (fun i _ => by by_cases h : i = 0 <;> simp [h])] at O4
  have hB2 : Below w.heap.size w w2 := Below.grown hB G2 hB.size (by simp)
  have BP2 : Blk w2 w.heap.size 35 #[.slice A n c, .string t] := BP.grown G2 (by simp)
  have BP4 := BP2.far (p := ⟨w.heap.size + 1, 0, none⟩) (show w.heap.size ≠ w.heap.size + 1 by omega) (.bool true)
  have hB4 := below_set (g := w.heap.size + 1) hB2 (by omega) 0 (.bool true)
  clear O2 O3 G2 fz cz BP BP2 hB hB2 q0 q1
  have O5 := O4.1
  clear O4
  generalize w2.setCell ⟨w.heap.size + 1, 0, none⟩ (.bool true) = W at *
  have q0 := BP4.cell 0
  have q1 := BP4.cell 1
  have hSK := glob_skip A n c t L W w.heap.size (w.heap.size + 1) (w.heap.size + 1) (n + 1) _ (HP.out.below hB4) (by omega) (Nat.le_refl _) O5 (by omega)
  go_wp2_with fail
  refine hSK.mono ?_
  clear hSK q0 q1
  rintro x w3 ⟨rfl, O6, G6⟩
  rw [St_first (L.map PS.p) (rest s 0)] at O6
  replace BP4 := BP4.grown G6 (by simp)
  replace hB4 := Below.grown hB4 G6 hB4.size (fun k e => by injection e; omega)
  clear O5
  have hgi : w.heap.size + 1 < w3.heap.size := (World.ownsRow.lt O6 _ rfl).2
  rw [HT.out, HPe.out] at O6
  clear G6
  go_wp2_with fail
  go_loopw [5] (fun v5 wr => ∃ (k p g : Nat), v5 = .slice (some ⟨g, 0, none⟩) (n + 1) (n + 1) ∧ OwnB wr (w.heap.size + 1) (.slice (some ⟨g, 0, none⟩) (n + 1) (n + 1)) (bl_ (n + 1) (St P T k)) ∧ It wr w3.heap.size s p ∧ rest s p = T.drop k ∧ k ≤ T.length ∧ Blk wr w.heap.size 35 #[.slice A n c, .string t] ∧ Below w.heap.size w wr) (fun _ wr => s.size - wr.iterPos w3.heap.size)
  case atStart => exact ⟨0, 0, w.heap.size + 1, rfl, O6.alloc _, It.new _ _ _, by rw [HT.out, List.drop_zero], Nat.zero_le _, BP4.alloc _, below_iter hB4 hB4.size _ _⟩
  case round =>
    clear O6 BP4 hB4
    obtain ⟨k, p, g, rfl, hO, hI, hr, hk, BP, hB⟩ := hrel
    obtain ⟨wo, hwo⟩ : ∃ wo, wo = wr := ⟨_, rfl⟩
    subst hwo
    have hpos := hI.pos
    have hgs : g ≠ w3.heap.size := by
      obtain ⟨_, hh⟩ := World.ownsRow.lt hO g rfl
      intro e
      subst e
      have := ob_at hO 0 (by omega)
      unfold World.cell? at this
      rw [hI] at this
      simp at this
    have hws : w.heap.size ≠ w3.heap.size := hI.ne BP
    by_cases hp : p < s.size
    · obtain ⟨r, d, hD, hd1, hr2, _⟩ := decode_some s p hp
      have hrc := rest_cons s p hp hD hd1
      rw [hr] at hrc
      have hkT : k < T.length := by
        rcases Nat.lt_or_ge k T.length with h | h
        · exact h
        · rw [List.drop_of_length_le h] at hrc
          cases hrc
      rw [List.drop_eq_getElem_cons hkT] at hrc
      injection hrc with hrk hrr
      have hTk : T.getD k 0 = r := by rw [List.getD_eq_getElem?_getD, List.getElem?_eq_getElem hkT]; exact hrk
      have hnx : ∀ ty, (Instr.next (.pointer (some ⟨w3.heap.size, 0, none⟩)) true ty).run Tryd.prog wo = .ok (.tuple #[.bool true, .int .i64 p, .int .i32 r]) (wo.iterAt w3.heap.size s (p + d)) := by
        intro ty
        rw [Lib.run_next_any_at wo _ s p ty hI hp, hD]
      have hI2 := hI.at_ (p + d)
      have hO2 : OwnB (wo.iterAt w3.heap.size s (p + d)) (w.heap.size + 1) (.slice (some ⟨g, 0, none⟩) (n + 1) (n + 1)) (bl_ (n + 1) (St P T k)) := own_iterAt hO hI _
      have BP2 := BP.iterAt hws s (p + d)
      have hB2 : Below w.heap.size w (wo.iterAt w3.heap.size s (p + d)) := Lib.below_iterAt hB (k := w3.heap.size) (by omega) s (p + d)
      have HRR := Lib.hid hrr
      have HTK := Lib.hid hTk
      have HPOS := Lib.hid hpos
      clear hD hr hrk hrr hTk hI hO BP hB hpos
      generalize wo.iterAt w3.heap.size s (p + d) = V at *
      have q0 := BP2.cell 0
      have q1 := BP2.cell 1
      obtain ⟨x', hx'⟩ : ∃ m, V.heap.size = m := ⟨_, rfl⟩
      have hgV : g < V.heap.size := (World.ownsRow.lt hO2 g rfl).2
      have hiV : w3.heap.size < V.heap.size := hI2.lt
      go_upto_region 9 with (at_make; refine wpList_make_full _ rfl _ _ 83 rfl (w.heap.size + 1) 4 i0 (.bool false) 1 Tryd.underlying83 HZ.out.1 HZ.out.2.1 HZ.out.2.2.1 .i64 .i64 _ _ (n + 1) rfl rfl (by omega) (by omega) (by rw [HZ.out.2.2.2]; omega) (by unfold maxLen; omega) (by omega) ?_; intro v2 O2 G2; have O3 := made_bools O2; have BP3 := BP2.grown G2 (by simp); have q20 := BP3.cell 0)
      have hI3 := hI2.grown G2 (by simp)
      have hOa : OwnB v2 (w.heap.size + 1) (.slice (some ⟨g, 0, none⟩) (n + 1) (n + 1)) (bl_ (n + 1) (St P T k)) := World.ownsRow.kept hO2 G2 (.inr (fun e => by cases e))
      have hB3 : Below w.heap.size w v2 := Below.grown hB2 G2 hB2.size (by simp)
      have HOn : Hid (OwnB v2 (w.heap.size + 1) (.slice (some ⟨V.heap.size, 0, none⟩) (n + 1) (n + 1)) (bl_ (n + 1) (nxF P T k 0))) := Lib.hid (by rw [bl_congr (g := fun _ => false) (fun i _ => nxF_zero P T k i)]; exact O3)
      clear O2 O3 G2 hO2 hI2 BP2 hB2 q0 q1 hnx q20
      rw [hx'] at HOn hgV hiV
      have hgx : g ≠ x' := by omega
      clear hx'
      go_loopw [32] (fun v32 wr => ∃ j : Nat, v32 = .int .i64 j ∧ j ≤ n ∧ OwnB wr (w.heap.size + 1) (.slice (some ⟨x', 0, none⟩) (n + 1) (n + 1)) (bl_ (n + 1) (nxF P T k j)) ∧ OwnB wr (w.heap.size + 1) (.slice (some ⟨g, 0, none⟩) (n + 1) (n + 1)) (bl_ (n + 1) (St P T k)) ∧ It wr w3.heap.size s (p + d) ∧ Blk wr w.heap.size 35 #[.slice A n c, .string t] ∧ Below w.heap.size w wr) (fun v32 _ => n - (RowKit.intOf v32).toNat)
      case atStart => exact ⟨0, rfl, Nat.zero_le _, HOn.out, hOa, hI3, BP3, hB3⟩
      case round =>
        clear hOa hI3 BP3 hB3 HOn
        obtain ⟨j, rfl, hj, hOn, hOa, hI, BP, hB⟩ := hrel
        by_cases hjn : j < n
        · have hkl : j < L.length := by have := HL.out; omega
          have hPr : PatR psL 4 wr w.heap.size A n L := HP.out.below hB
          obtain ⟨b, off, hA, hb, d0, d1, d2, d3⟩ := psL_at hPr hkl
          have hrow := rowP_map hkl
          have hone := oneP_map hkl r
          rw [HPe.out] at hrow hone
          have hmem : L[j] ∈ L := List.getElem_mem hkl
          have hsm := hPr.small _ hmem
          have hrd := (hPr.hang _ hmem).more hB.size
          obtain ⟨b3, hb3⟩ : ∃ x, (L[j].p.kind == 3) = x := ⟨_, rfl⟩
          obtain ⟨b2, hb2⟩ : ∃ x, (L[j].p.kind == 2) = x := ⟨_, rfl⟩
          obtain ⟨b1, hb1⟩ : ∃ x, (L[j].p.kind == 1) = x := ⟨_, rfl⟩
          have hHO : ∀ w', Below wr.heap.size wr w' → b3 = false → Calls Tryd.prog 53 #[.agg #[.bool b3, .bool b2, .bool b1, .slice L[j].A L[j].n L[j].c], .int .i32 (r : Int)] w' fun x w'' => x = .returned (.bool (oneP P j r)) ∧ Below w'.heap.size w' w'' := by
            intro w' hw' h3
            have h := glob_one L[j] r w' ((hrd.below hw').more hw'.size) (by have := hsm.1; omega) (by
              have := hsm.2.1
              rw [h3] at hb3
              simp at hb3
              omega)
            unfold psC at h
            rw [hb3, hb2, hb1] at h
            rw [hone]
            exact h
          rw [hb3] at d0 hrow
          rw [hb2] at d1
          rw [hb1] at d2
          have HH := Lib.hid hHO
          clear hHO hsm hrd hmem hone hPr
          generalize L[j].A = A7 at *
          generalize L[j].n = n7 at *
          generalize L[j].c = c7 at *
          have e0 := ob_at hOa j (by omega)
          obtain ⟨u, hu⟩ : ∃ u, St P T k j = u := ⟨_, rfl⟩
          rw [hu] at e0
          have HU := Lib.hid hu
          have HRW := Lib.hid hrow
          have n1 := ob_at hOn j (by omega)
          have n2 := ob_at hOn (j + 1) (by omega)
          have fz1 := OwnB.frozen_at hOn j
          have fz2 := OwnB.frozen_at hOn (j + 1)
          have hxw : x' < wr.heap.size := (World.ownsRow.lt hOn x' rfl).2
          have hgw : g < wr.heap.size := (World.ownsRow.lt hOa g rfl).2
          rw [hA] at BP ⊢
          clear hu hrow hb3 hb2 hb1 hA
          cases u
          · go_wp2_with fail
            go_roundw
            case rel => exact ⟨j + 1, by go_num, by omega, by rw [bl_congr (g := nxF P T k j) (fun i _ => nxF_off HU.out i)]; exact hOn.alloc _, hOa.alloc _, hI.alloc _, BP.alloc _, hB.alloc hB.size _⟩
            case measure => simp [RowKit.intOf]; omega
          · cases b3
            · have hb9 := (Below.refl wr.heap.size wr).alloc (Nat.le_refl _) (.cells #[.bool false, .bool b2, .bool b1, .slice A7 n7 c7] 76)
              have hOn9 := OwnB.alloc hOn (.cells #[.bool false, .bool b2, .bool b1, .slice A7 n7 c7] 76)
              have hOa9 := OwnB.alloc hOa (.cells #[.bool false, .bool b2, .bool b1, .slice A7 n7 c7] 76)
              have hI9 := hI.alloc (.cells #[.bool false, .bool b2, .bool b1, .slice A7 n7 c7] 76)
              have BP9 := BP.alloc (.cells #[.bool false, .bool b2, .bool b1, .slice A7 n7 c7] 76)
              have hB9 := hB.alloc hB.size (.cells #[.bool false, .bool b2, .bool b1, .slice A7 n7 c7] 76)
              have HC := Lib.hid (HH.out _ hb9 rfl)
              go_wp2_with fail
              refine HC.out.mono ?_
              clear HC n1 n2 fz1 fz2 e0 d0 d1 d2 d3
              rintro y w5 ⟨rfl, b5⟩
              have hOn5 := OwnB.below hOn9 b5
              have hOa5 := OwnB.below hOa9 b5
              have hI5 := hI9.below b5 hI9.lt
              have BP5 := BP9.below b5 BP9.lt
              have hB5 := hB9.trans (b5.mono hB9.size)
              have m2 := ob_at hOn5 (j + 1) (by omega)
              have fz2 := OwnB.frozen_at hOn5 (j + 1)
              obtain ⟨q, hq⟩ : ∃ q, oneP P j r = q := ⟨_, rfl⟩
              rw [hq]
              have HQ := Lib.hid hq
              clear hq b5 hOn9 hOa9 hI9 BP9 hB9 hb9
              cases q
              · go_wp2_with fail
                go_roundw
                case rel => exact ⟨j + 1, by go_num, by omega, by rw [bl_congr (g := nxF P T k j) (fun i _ => nxF_none HU.out HRW.out (by rw [HTK.out]; exact HQ.out) i)]; exact hOn5, hOa5, hI5, BP5, hB5⟩
                case measure => simp [RowKit.intOf]; omega
              · have hO6 := OwnB.set_at hOn5 (j + 1) true
                rw [bl_set] at hO6
                go_wp2_with fail
                go_roundw
                case rel => exact ⟨j + 1, by go_num, by omega, by rw [bl_congr (g := fun i => if i = j + 1 then true else nxF P T k j i) (fun i _ => by rw [nxF_one HU.out HRW.out, HTK.out, HQ.out])]; exact hO6.1, World.ownsRow.kept hOa5 (only_set1 w5 x' (j + 1) (.bool true)) (.inr (fun e => hgx (by injection e))), hI5.far (a := ⟨x', j + 1, none⟩) (show w3.heap.size ≠ x' by omega) _, BP5.far (p := ⟨x', j + 1, none⟩) (show w.heap.size ≠ x' by omega) _, below_set hB5 (show w.heap.size ≤ x' by omega) _ _⟩
                case measure => simp [RowKit.intOf]; omega
            · have hO6 := OwnB.set_at hOn j true
              rw [bl_set] at hO6
              have hOa6 : OwnB (wr.setCell ⟨x', j, none⟩ (.bool true)) (w.heap.size + 1) (.slice (some ⟨g, 0, none⟩) (n + 1) (n + 1)) (bl_ (n + 1) (St P T k)) := World.ownsRow.kept hOa (only_set1 wr x' j (.bool true)) (.inr (fun e => hgx (by injection e)))
              have hI6 := hI.far (a := ⟨x', j, none⟩) (show w3.heap.size ≠ x' by omega) (.bool true)
              have BP6 := BP.far (p := ⟨x', j, none⟩) (show w.heap.size ≠ x' by omega) (.bool true)
              have hB6 := below_set hB (show w.heap.size ≤ x' by omega) j (.bool true)
              go_wp2_with fail
              go_roundw
              case rel => exact ⟨j + 1, by go_num, by omega, by rw [bl_congr (g := fun i => if i = j then true else nxF P T k j i) (fun i _ => nxF_row HU.out HRW.out i)]; exact OwnB.alloc hO6.1 _, OwnB.alloc hOa6 _, hI6.alloc _, BP6.alloc _, hB6.alloc hB6.size _⟩
              case measure => simp [RowKit.intOf]; omega
        · have hje : j = n := by omega
          subst hje
          have hSK := glob_skip A j c t L wr w.heap.size (w.heap.size + 1) x' (j + 1) _ (HP.out.below hB) (by omega) (World.ownsRow.lt hOn x' rfl).1 hOn (by omega)
          rw [HPe.out] at hSK
          have q0 := BP.cell 0
          have q1 := BP.cell 1
          go_wp2_with fail
          refine hSK.mono ?_
          clear hSK q0 q1
          rintro y w6 ⟨rfl, O6, G6⟩
          rw [bl_congr (g := St P T (k + 1)) (fun i hi => by have := HPl.out; have h := St_step P T k i (by omega); rw [this] at h; exact h)] at O6
          have hI6 := hI.grown G6 (by intro e; injection e; omega)
          have BP6 := BP.grown G6 (by intro e; injection e; omega)
          have hB6 := Below.grown hB G6 hB.size (fun k e => by injection e; omega)
          clear hOn hOa hI BP hB G6
          go_wp2_with fail
          go_roundw
          case rel => exact ⟨k + 1, p + d, x', rfl, O6, hI6, HRR.out.symm, by omega, BP6, hB6⟩
          case measure => rw [hI6.pos, HPOS.out]; omega
    · have hnx : ∀ ty, (Instr.next (.pointer (some ⟨w3.heap.size, 0, none⟩)) true ty).run Tryd.prog wo = .ok (.tuple #[.bool false]) wo := fun ty => Lib.run_next_end_at wo _ s p ty hI hp
      have hke : k = T.length := by
        rw [rest_end s p (by omega)] at hr
        have := congrArg List.length hr
        simp at this
        omega
      have e0 := ob_at hO n (by omega)
      have hse := St_end P T
      rw [HPl.out, ← hke] at hse
      rw [hse] at e0
      have q0 := BP.cell 0
      have HE : Hid (matchP P T = matchP P T) := Lib.hid rfl
      go_wp2_with fail
      go_ret
      exact ⟨rfl, hB⟩
end Go.Proofs.YtedegdojbhegdaaDoor
