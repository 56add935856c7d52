/- Contract of the reference's class. -/
import Derived.Test.YtedegdojbhegdaaDoorGloD
namespace Go.Proofs.YtedegdojbhegdaaDoor
open Go.RowKit Go.Sort

theorem append_span_b {ops : Array Oper} {rest : List Oper} {o : Oper} {a : Act} {Q : Exit → Act → World → Prop} (w : World) (q : Nat × Nat) (u : Array Value) (hu : u.toList = sp2 q) (t : TypeId) (hgd : o.guard = none) (sl x : Operand)
    (ho : o.op = .call { callee := .builtin .append, args := #[sl, x], argTypes := #[74, 74] }) (base : Nat) (v : Value) (S : List (Nat × Nat)) (hs : a.eval sl = v) (hown : OwnP w base v S)
    (hx : a.eval x = .slice (some ⟨w.heap.size, 0, none⟩) 1 1) (hlen : S.length ≤ 1000000000) (hbase : base ≤ w.heap.size)
    (h : ∀ v' w', OwnP w' base v' (S ++ [q]) → (w.alloc (.cells u t)).grownBy w' v.ownBlock → LiesIn (w.alloc (.cells u t)) v v' → wpList Tryd.prog ops Q rest (a.put o.dst v') w') :
    wpList Tryd.prog ops Q (o :: rest) a (w.alloc (.cells u t)) := by
  refine append_elem_b w _ (sp2 q) hu t hgd sl x 74 ho base 79 _ 2 8 Tryd.underlying74 info_span rfl (by decide) v S.length (S.flatMap sp2) hs hown rfl (sp2_one q) hx (by unfold maxLen; omega) (by omega) hbase ?_
  intro v' w' h1 h2 h3
  refine h v' w' ?_ h2 h3
  unfold OwnP
  rw [List.flatMap_append, List.length_append]
  simpa using h1
/-- What the reference's class ends in. -/
def RcEnd (w : World) (L : List Nat) (x : Ending) (w' : World) : Prop :=
  ∃ (e : PS) (m : Nat) (ok : Bool), x = .returned (.tuple #[.agg (rsC e), .int .i64 (m : Int), .bool ok]) ∧ ok = (classP L).isSome ∧
    (∀ p k, classP L = some (p, k) → e.p = p ∧ m = k ∧ Reads w' w'.heap.size 2 e.A e.n e.x ∧ ∀ ad, e.A = some ad → w.heap.size ≤ ad.block ∧ ad.block < w'.heap.size) ∧ Below w.heap.size w w'
theorem rcEnd_no {w w' : World} {L : List Nat} {K : Nat} {A : Option Addr} {n c m : Nat} {x : Ending} (hx : x = .returned (.tuple #[.agg #[.int .i64 (K : Int), .slice A n c], .int .i64 (m : Int), .bool false])) (hc : classP L = none) (hB : Below w.heap.size w w') : RcEnd w L x w' :=
  ⟨⟨⟨K, []⟩, A, n, c⟩, m, false, hx, by rw [hc]; rfl, fun p k h => (by rw [hc] at h; cases h), hB⟩
theorem rcEnd_yes {w w' : World} {L : List Nat} {K : Nat} {A : Option Addr} {n c m : Nat} {S : List (Nat × Nat)} {x : Ending} (hx : x = .returned (.tuple #[.agg #[.int .i64 (K : Int), .slice A n c], .int .i64 (m : Int), .bool true])) (hc : classP L = some (⟨K, S⟩, m))
    (hr : Reads w' w'.heap.size 2 A n (S.flatMap sp2)) (hn : ∀ ad, A = some ad → w.heap.size ≤ ad.block ∧ ad.block < w'.heap.size) (hB : Below w.heap.size w w') : RcEnd w L x w' :=
  ⟨⟨⟨K, S⟩, A, n, c⟩, m, true, hx, by rw [hc]; rfl, fun p k h => (by rw [hc] at h; injection h with h; injection h with h1 h2; subst h1 h2; exact ⟨rfl, rfl, hr, hn⟩), hB⟩

set_option maxRecDepth 100000 in
set_option maxHeartbeats 4000000 in
theorem ref38_class (A : Option Addr) (n c : Nat) (L : List Nat) (w : World) (hr : Reads w w.heap.size 1 A n (L.map rv)) (hn : n ≤ 1000) :
    Calls Tryd.prog 71 #[.slice A n c] w (RcEnd w L) := by
  have hl := runes_n hr
  obtain ⟨F, NG, hF, hcase, hcl⟩ := classP_at L
  have HR := Lib.hid hr
  have HL := Lib.hid hl
  have HF := Lib.hid hF
  obtain ⟨R, hR⟩ : ∃ R, cl (L.drop F) = R := ⟨_, rfl⟩
  have HS : Hid (ClR L F R F []) := Lib.hid ⟨Nat.le_refl _, hF, Nat.zero_le _, by rw [← hR]; cases cl (L.drop F) <;> simp⟩
  obtain ⟨K, hK⟩ : ∃ K : Nat, (if NG then 1 else 0) = K := ⟨_, rfl⟩
  have hFK : F = K := by rcases hcase with ⟨_, h, rfl⟩ | ⟨_, h, rfl⟩ <;> rw [h, ← hK] <;> rfl
  rw [hR] at hcl
  simp only [hK] at hcl
  have HC := Lib.hid hcl
  have HRR := Lib.hid hR
  clear hr hl hcl hF hR
  have B2 := (Blk.new w 87 #[.int .i64 0, .slice none 0 0]).alloc (.cells #[.int .i64 0, .slice none 0 0] 87)
  have B5 := Blk.new (w.alloc (.cells #[.int .i64 0, .slice none 0 0] 87)) 87 #[.int .i64 0, .slice none 0 0]
  have hB : Below w.heap.size w ((w.alloc (.cells #[.int .i64 0, .slice none 0 0] 87)).alloc (.cells #[.int .i64 0, .slice none 0 0] 87)) := ((Below.refl _ _).alloc (Nat.le_refl _) _).alloc (by simp) _
  have hsz : w.heap.size + 2 ≤ ((w.alloc (.cells #[.int .i64 0, .slice none 0 0] 87)).alloc (.cells #[.int .i64 0, .slice none 0 0] 87)).heap.size := by simp
  simp only [World.size_alloc] at B5
  go_enter Tryd.func71, Tryd.ntmps71
  go_upto_region 3 with fail
  generalize (w.alloc (.cells #[.int .i64 0, .slice none 0 0] 87)).alloc (.cells #[.int .i64 0, .slice none 0 0] 87) = W at *
  go_cut [18] from 10 to 106 (fun s18 wx => s18 = .bool NG ∧ wx = W)
  case first =>
    by_cases hn0 : 0 < n
    · obtain ⟨b, off, hA, hb, hc⟩ := rune_at (HR.out.below hB) hn0
      have hl0 : 0 < L.length := by have := HL.out; omega
      have c0 := hc 0 hl0
      rw [Nat.add_zero] at c0
      have hx : ((L[0] : Int) == 94) = NG := by
        rw [List.getElem?_eq_getElem hl0] at hcase
        rcases hcase with ⟨h, _, rfl⟩ | ⟨h, _, rfl⟩
        · simp at h ⊢
          omega
        · simp at h ⊢
          omega
      generalize L[0] = x at *
      have HA := Lib.hid hA
      rw [hA]
      clear hc hA hcase hFK hK
      go_wp2_with fail
      rw [← HA.out]
      go_meet
      case rel => exact ⟨rfl, rfl⟩
    · have hx : NG = false := by
        rcases hcase with ⟨h, _, _⟩ | ⟨_, _, h⟩
        · have := (List.getElem?_eq_some_iff.1 h).1
          have := HL.out
          omega
        · exact h
      clear hcase hFK hK
      go_wp2_with fail
      go_meet
      case rel => exact ⟨by rw [hx], rfl⟩
  case rest =>
  obtain ⟨rfl, rfl⟩ := hcut
  go_upto_if 18 with fail
  go_cut [6] from 10 to 106 (fun s6 wx => s6 = .int .i64 (F : Int) ∧ Blk wx (w.heap.size + 1) 87 #[.int .i64 (K : Int), .slice none 0 0] ∧ Blk wx w.heap.size 87 #[.int .i64 0, .slice none 0 0] ∧ Below w.heap.size w wx ∧ w.heap.size + 2 ≤ wx.heap.size)
  case first =>
    rcases hcase with ⟨h94, hF1, rfl⟩ | ⟨h94, hF0, rfl⟩
    · have hs9 : w.heap.size + 2 ≤ (wc.setCell ⟨w.heap.size + 1, 0, none⟩ (.int .i64 1)).heap.size := by simpa using hsz
      have HF1 : Hid ((1 : Int) = F) := Lib.hid (by rw [hF1]; rfl)
      have HK1 : Hid ((1 : Int) = K) := Lib.hid (by rw [← hK]; rfl)
      clear h94 hF1 hFK hK
      have f5 := B5.frozen
      have c5 := B5.cell
      go_wp2_with fail
      go_meet
      case rel => exact ⟨by rw [← HF1.out], by rw [← HK1.out]; exact B5.set_ 0 (.int .i64 1), B2.far (p := ⟨w.heap.size + 1, 0, none⟩) (show w.heap.size ≠ w.heap.size + 1 by omega) (.int .i64 1), below_set hB (show w.heap.size ≤ w.heap.size + 1 by omega) 0 (.int .i64 1), hs9⟩
    · have HF1 : Hid ((0 : Int) = F) := Lib.hid (by rw [hF0]; rfl)
      have HK1 : Hid ((0 : Int) = K) := Lib.hid (by rw [← hK]; rfl)
      clear h94 hF0 hFK hK
      go_wp2_with fail
      go_meet
      case rel => exact ⟨by rw [← HF1.out], by rw [← HK1.out]; exact B5, B2, hB, hsz⟩
  case rest =>
    clear B5 B2 hB hsz hcase hK hFK
    obtain ⟨rfl, BX, B2, hB, hsz⟩ := hcut
    go_wp2_with fail
    go_loop [7] (fun v7 => ∃ j : Nat, v7 = .int .i64 j ∧ F ≤ j ∧ j ≤ n ∧ ∀ i (h : i < L.length), F ≤ i → i < j → L[i] ≠ 93) (fun v7 => n - (RowKit.intOf v7).toNat)
    case atStart => exact ⟨F, rfl, Nat.le_refl _, by have := HL.out; have := HF.out; omega, fun i _ h1 h2 => by omega⟩
    case round =>
      obtain ⟨j, rfl, hFj, hjn, hno⟩ := hrel
      have HNO := Lib.hid hno
      clear hno
      have C2 := B2.cell
      have f2 := B2.frozen
      have x0 := BX.cell 0
      have x1 := BX.cell 1
      have hj1 : j ≤ 1000 := by omega
      by_cases hj : j < n
      · have hjl : j < L.length := by have := HL.out; omega
        obtain ⟨b, off, hA, hb, hc⟩ := rune_at (HR.out.below hB) (by omega)
        have HCC := Lib.hid hc
        have c0 := hc j hjl
        clear hc
        by_cases h93 : L[j] = 93
        · have HJ := Lib.hid h93
          rw [h93] at c0
          by_cases hFe : j = F
          · have hcn : Hid (classP L = none) := Lib.hid (by
              have : R = some ([], 1) := by
                rw [← HRR.out]
                have hx : L.drop F = 93 :: L.drop (F + 1) := by
                  subst hFe
                  rw [List.drop_eq_getElem_cons hjl, h93]
                rw [hx, cl_end]
              rw [HC.out, this]
              simp)
            have hge : decide (n ≤ j) = false := by simp; omega
            clear h93
            subst hFe
            rw [hA]
            go_wp2_with fail
            have zz := ((B2.set_ 0 (.int .i64 (K : Int))).set_ 1 (.slice none 0 0)).cell
            simp at zz
            refine bodyPost_ret (v := .tuple #[.agg #[.int .i64 (K : Int), .slice none 0 0], .int .i64 0, .bool false]) (by simp [results, Tryd.results71, go_sem, zz]) rfl ?_
            exact rcEnd_no (m := 0) rfl hcn.out (below_set (below_set hB (Nat.le_refl _) 0 _) (Nat.le_refl _) 1 _)
          · have hge : decide (n ≤ j) = false := by simp; omega
            have hFe2 : ((j : Int) == F) = false := by simp; omega
            clear h93
            rw [hA]
            go_wp2_with fail
            go_loopw [8] (fun v8 wr => ∃ (i : Nat) (S : List (Nat × Nat)) (v : Value), v8 = .int .i64 i ∧ F ≤ i ∧ i ≤ j ∧ (F < i → S ≠ []) ∧ ClR L F R i S ∧ Blk wr (w.heap.size + 1) 87 #[.int .i64 (K : Int), v] ∧ OwnP wr (w.heap.size + 2) v S ∧ Blk wr w.heap.size 87 #[.int .i64 0, .slice none 0 0] ∧ Below w.heap.size w wr ∧ w.heap.size + 2 ≤ wr.heap.size) (fun v8 _ => j - (RowKit.intOf v8).toNat)
            case atStart => exact ⟨F, [], _, rfl, Nat.le_refl _, hFj, fun h => absurd h (Nat.lt_irrefl _), HS.out, BX, OwnP.nil_ _ _, B2, hB, hsz⟩
            case round =>
              clear BX B2 hB hsz C2 f2 x0 x1 c0 HCC
              obtain ⟨i, S, v, rfl, hFi, hij, hSne, HCl, BX, OV, B2, hB, hsz⟩ := hrel
              replace HCl := Lib.hid HCl
              have hS : S.length ≤ 1000 := by have := HCl.out.2.2.1; omega
              obtain ⟨A3, c3, rfl, _, _, hF3⟩ := own_form OV
              have C2 := B2.cell
              have f2 := B2.frozen
              have hne : some (w.heap.size + 1) ≠ (Value.slice A3 S.length c3).ownBlock := fun e => by have := (World.ownsRow.lt OV _ e.symm).1; omega
              have hne2 : some w.heap.size ≠ (Value.slice A3 S.length c3).ownBlock := fun e => by have := (World.ownsRow.lt OV _ e.symm).1; omega
              by_cases hi : i < j
              · have hil : i < L.length := by omega
                have hn93 := HNO.out i hil hFi hi
                have HRA : Hid (Reads w w.heap.size 1 (some ⟨b, off, none⟩) n (L.map rv)) := Lib.hid (by rw [← hA]; exact HR.out)
                have hcell : ∀ k (hk : k < L.length), ∀ m, (wr.drewN m).cell? ⟨b, off + k, none⟩ = some (.int .i32 (L[k] : Int)) := by
                  intro k hk m
                  obtain ⟨b', off', hA', hb', hc'⟩ := rune_at (HRA.out.below hB) (by omega)
                  injection hA' with hA'
                  injection hA' with h1 h2
                  subst h1 h2
                  exact hc' k hk
                have d0 := hcell i hil
                obtain ⟨lo, hlo⟩ : ∃ lo, L[i] = lo := ⟨_, rfl⟩
                have hcase : (∃ HST : ClR L F R (i + 1) (S ++ [(L[i], L[i])]), (¬ i + 2 < j) ∨ (i + 2 < j ∧ ∃ x : Nat, (∀ m, (wr.drewN m).cell? ⟨b, off + (i + 1), none⟩ = some (.int .i32 (x : Int))) ∧ ((x : Int) == 45) = false)) ∨
                    (i + 2 < j ∧ (∀ m, (wr.drewN m).cell? ⟨b, off + (i + 1), none⟩ = some (.int .i32 45)) ∧ ∃ x : Nat, (∀ m, (wr.drewN m).cell? ⟨b, off + (i + 2), none⟩ = some (.int .i32 (x : Int))) ∧ ((x < L[i] ∧ R = none) ∨ (¬ x < L[i] ∧ ClR L F R (i + 3) (S ++ [(L[i], x)])))) := by
                  by_cases h2 : i + 2 < j
                  · have e1 := hcell (i + 1) (by omega)
                    have e2 := hcell (i + 2) (by omega)
                    by_cases h45 : L[i + 1] = 45
                    · rw [h45] at e1
                      have hb93 := HNO.out (i + 2) (by omega) (by omega) h2
                      refine .inr ⟨h2, e1, L[i + 2], e2, ?_⟩
                      by_cases hlt : L[i + 2] < L[i]
                      · exact .inl ⟨hlt, HCl.out.fail (by omega) hn93 h45 hb93 hlt⟩
                      · exact .inr ⟨hlt, HCl.out.step3 (by omega) hn93 h45 hb93 (by omega)⟩
                    · exact .inl ⟨HCl.out.step1 hil hn93 (fun ⟨_, h, _⟩ => h45 h), .inr ⟨h2, _, e1, by simp; omega⟩⟩
                  · refine .inl ⟨HCl.out.step1 hil hn93 (fun ⟨h3, h4, h5⟩ => ?_), .inl h2⟩
                    have hj93 := HJ.out
                    rcases (show i + 1 = j ∨ i + 2 = j by omega) with h6 | h6
                    · subst h6
                      rw [hj93] at h4
                      cases h4
                    · subst h6
                      exact h5 hj93
                simp only [hlo] at d0 hcase
                clear hlo hcell hn93
                go_upto_region 14 with fail
                go_cut [61] from 45 to 103 (fun s61 wx => ∃ q : Bool, s61 = .bool q ∧ wx = wr ∧ ((q = false ∧ ClR L F R (i + 1) (S ++ [(lo, lo)])) ∨ (q = true ∧ i + 2 < j ∧ ∃ x : Nat, (∀ m, (wr.drewN m).cell? ⟨b, off + (i + 2), none⟩ = some (.int .i32 (x : Int))) ∧ ((x < lo ∧ R = none) ∨ (¬ x < lo ∧ ClR L F R (i + 3) (S ++ [(lo, x)]))))))
                case first =>
                  rcases hcase with ⟨HST, hk⟩ | ⟨h2, e1, hi2, e2, HST⟩
                  · have HST := Lib.hid HST
                    rcases hk with h2 | ⟨h2, x, e1, hx⟩
                    · go_wp2_with fail
                      go_meet
                      case rel => exact ⟨false, rfl, rfl, .inl ⟨rfl, HST.out⟩⟩
                    · have e1 := e1 0
                      simp only [World.drewN_zero] at e1
                      go_wp2_with fail
                      go_meet
                      case rel => exact ⟨false, rfl, rfl, .inl ⟨rfl, HST.out⟩⟩
                  · have HST := Lib.hid HST
                    have e1 := e1 0
                    simp only [World.drewN_zero] at e1
                    go_wp2_with fail
                    go_meet
                    case rel => exact ⟨true, rfl, rfl, .inr ⟨rfl, h2, hi2, e2, HST.out⟩⟩
                case rest =>
                clear hcase
                obtain ⟨q, rfl, rfl, hq⟩ := hcut
                rcases hq with ⟨rfl, HST⟩ | ⟨rfl, h2, hi2, e2, hh⟩
                · have HST := Lib.hid HST
                  obtain ⟨V, hV⟩ : ∃ V, V = wc := ⟨_, rfl⟩
                  subst hV
                  have BXV := BX
                  have B2V := B2
                  have hBV := hB
                  have OVd : OwnP V.drew (w.heap.size + 2) (.slice A3 S.length c3) S := OV
                  have hszV : w.heap.size + 2 ≤ V.drew.heap.size := hsz
                  have y1 : ∀ p : Kept (· < w.heap.size + 2) V.drew, p.v.cell? ⟨w.heap.size + 1, 1, none⟩ = some (.slice A3 S.length c3) := fun p => p.h.cell (show w.heap.size + 1 < w.heap.size + 2 by omega) (BXV.drew.cell 1)
                  have e0 : ∀ p : Kept (· < w.heap.size + 2) V.drew, p.v.cell? ⟨b, off + i, none⟩ = some (.int .i32 (lo : Int)) := fun p => p.h.cell (show b < w.heap.size + 2 by omega) (d0 0)
                  clear d0 C2 f2
                  go_wp2_with fail
                  refine wp_region_mixTk (M := []) (· < w.heap.size + 2) 13 [0, 1, 2, 3, 4, 5, 6, 7, 8, 9, 10, 11, 12] (by kernel_rfl) (by kernel_rfl) ?_
                  iterate 11 (refine mix_calmDk rfl rfl ?_; go_big_quiet_step (fail); refine wpQuiet_nil ?_)
                  refine mix_loudDk rfl (by kernel_rfl) rfl ?_
                  intro K1 hK1
                  have HK := Lib.hid hK1
                  clear hK1 y1 e0 
                  go_wp2_with fail
                  refine HK.out _ _ ((Stand.refl _ _).alloc _) ?_
                  clear HK
                  refine mix_loudDk rfl (by kernel_rfl) rfl ?_
                  intro K1 hK1
                  have HK := Lib.hid hK1
                  clear hK1
                  go_wp2_with (at_builtin; (refine append_span_b V.drew (lo, lo) #[.int .i32 (lo : Int), .int .i32 (lo : Int)] rfl 79 rfl _ _ rfl (w.heap.size + 2) (.slice A3 S.length c3) S rfl OVd (by first | rfl | (rw [show V.drew.heap.size = V.heap.size from rfl]; rfl)) (by omega) hszV ?_); intro v6 w6 R6 g6 L6)
                  obtain ⟨A6, m6, d6, rfl⟩ := own_slice R6
                  have BX6 := Blk.grown ((BXV.drew).alloc (.cells #[.int .i32 (lo : Int), .int .i32 (lo : Int)] 79)) g6 hne
                  have f6 := BX6.frozen
                  have c6 := BX6.cell
                  have h12 : w.heap.size + 1 < w.heap.size + 2 := by omega
                  have B26 := (Blk.grown ((B2V.drew).alloc (.cells #[.int .i32 (lo : Int), .int .i32 (lo : Int)] 79)) g6 hne2).far (p := ⟨w.heap.size + 1, 1, none⟩) (show w.heap.size ≠ w.heap.size + 1 by omega) (.slice A6 m6 d6)
                  have hb8 : Below w.heap.size w (V.drew.alloc (.cells #[.int .i32 (lo : Int), .int .i32 (lo : Int)] 79)) := (below_drewN hBV 1).alloc hBV.size _
                  have hB6 := below_set (below_own hb8 hb8.size (World.ownsRow.alloc OVd (.cells #[.int .i32 (lo : Int), .int .i32 (lo : Int)] 79)) (show w.heap.size ≤ w.heap.size + 2 by omega) g6) (show w.heap.size ≤ w.heap.size + 1 by omega) 1 (.slice A6 m6 d6)
                  have h9 : V.heap.size + 1 ≤ w6.heap.size := by (have := g6.size; rw [World.size_alloc] at this; exact this)
                  refine HK.out _ _ (Stand.of_grown g6 (fun k hk hlt => by have := (World.ownsRow.lt OVd k hk).1; omega)) ?_
                  clear HK
                  refine mix_endDk ?_
                  go_wp2_with fail
                  go_roundw
                  case rel => exact ⟨i + 1, S ++ [(lo, lo)], .slice A6 m6 d6, by go_num, by omega, by omega, fun _ => by simp, HST.out, BX6.set_ 1 (.slice A6 m6 d6), own_set1 R6 h12 1 (.slice A6 m6 d6), B26, hB6, by have : w.heap.size + 2 ≤ V.heap.size := hszV; simp; omega⟩
                  case measure => simp [RowKit.intOf]; omega
                · have d2 := e2
                  go_wp2_with fail
                  go_quiet (fail)
                  rcases hh with ⟨hlt, hRn⟩ | ⟨hle, HST⟩
                  · have hcn : Hid (classP L = none) := Lib.hid (by rw [HC.out, hRn])
                    have hltd : decide (hi2 < lo) = true := by simp; omega
                    have q0 := (BX.drewN nq).cell 0
                    have q1 := (BX.drewN nq).cell 1
                    clear hRn
                    go_wp2_with fail
                    have zz := (((B2.drewN nq).set_ 0 (.int .i64 (K : Int))).set_ 1 (.slice A3 S.length c3)).cell
                    simp at zz
                    refine bodyPost_ret (v := .tuple #[.agg #[.int .i64 (K : Int), .slice A3 S.length c3], .int .i64 0, .bool false]) (by simp [results, Tryd.results71, go_sem, zz]) rfl ?_
                    exact rcEnd_no (m := 0) rfl hcn.out (below_set (below_set (below_drewN hB nq) (Nat.le_refl _) 0 _) (Nat.le_refl _) 1 _)
                  · have HST := Lib.hid HST
                    have hltd : decide (hi2 < lo) = false := by simp; omega
                    have BXV := BX.drewN nq
                    have B2V := B2.drewN nq
                    have hBV := below_drewN hB nq
                    have hszV0 : w.heap.size + 2 ≤ (wc.drewN nq).heap.size := hsz
                    have OV0 : OwnP (wc.drewN nq) (w.heap.size + 2) (.slice A3 S.length c3) S := OV
                    have d0 : ∀ m, ((wc.drewN nq).drewN m).cell? ⟨b, off + i, none⟩ = some (.int .i32 (lo : Int)) := fun m => d0 0
                    have d2 : ∀ m, ((wc.drewN nq).drewN m).cell? ⟨b, off + (i + 2), none⟩ = some (.int .i32 (hi2 : Int)) := fun m => d2 0
                    generalize wc.drewN nq = V at *
                    have OVd : OwnP V.drew (w.heap.size + 2) (.slice A3 S.length c3) S := OV0
                    have hszV : w.heap.size + 2 ≤ V.drew.heap.size := hszV0
                    have y1 : ∀ p : Kept (· < w.heap.size + 2) V.drew, p.v.cell? ⟨w.heap.size + 1, 1, none⟩ = some (.slice A3 S.length c3) := fun p => p.h.cell (show w.heap.size + 1 < w.heap.size + 2 by omega) (BXV.drew.cell 1)
                    have e0 : ∀ p : Kept (· < w.heap.size + 2) V.drew, p.v.cell? ⟨b, off + i, none⟩ = some (.int .i32 (lo : Int)) := fun p => p.h.cell (show b < w.heap.size + 2 by omega) (d0 0)
                    have e2 : ∀ p : Kept (· < w.heap.size + 2) V.drew, p.v.cell? ⟨b, off + (i + 2), none⟩ = some (.int .i32 (hi2 : Int)) := fun p => p.h.cell (show b < w.heap.size + 2 by omega) (d2 0)
                    clear d0 d2 C2 f2
                    go_wp2_with fail
                    refine wp_region_mixTk (M := []) (· < w.heap.size + 2) 14 [0, 1, 2, 3, 4, 5, 6, 7, 8, 9, 10, 11, 12, 13] (by kernel_rfl) (by kernel_rfl) ?_
                    iterate 12 (refine mix_calmDk rfl rfl ?_; go_big_quiet_step (fail); refine wpQuiet_nil ?_)
                    refine mix_loudDk rfl (by kernel_rfl) rfl ?_
                    intro K1 hK1
                    have HK := Lib.hid hK1
                    clear hK1 y1 e0 e2
                    go_wp2_with fail
                    refine HK.out _ _ ((Stand.refl _ _).alloc _) ?_
                    clear HK
                    refine mix_loudDk rfl (by kernel_rfl) rfl ?_
                    intro K1 hK1
                    have HK := Lib.hid hK1
                    clear hK1
                    go_wp2_with (at_builtin; (refine append_span_b V.drew (lo, hi2) #[.int .i32 (lo : Int), .int .i32 (hi2 : Int)] rfl 79 rfl _ _ rfl (w.heap.size + 2) (.slice A3 S.length c3) S rfl OVd (by first | rfl | (rw [show V.drew.heap.size = V.heap.size from rfl]; rfl)) (by omega) hszV ?_); intro v6 w6 R6 g6 L6)
                    obtain ⟨A6, m6, d6, rfl⟩ := own_slice R6
                    have BX6 := Blk.grown ((BXV.drew).alloc (.cells #[.int .i32 (lo : Int), .int .i32 (hi2 : Int)] 79)) g6 hne
                    have f6 := BX6.frozen
                    have c6 := BX6.cell
                    have h12 : w.heap.size + 1 < w.heap.size + 2 := by omega
                    have B26 := (Blk.grown ((B2V.drew).alloc (.cells #[.int .i32 (lo : Int), .int .i32 (hi2 : Int)] 79)) g6 hne2).far (p := ⟨w.heap.size + 1, 1, none⟩) (show w.heap.size ≠ w.heap.size + 1 by omega) (.slice A6 m6 d6)
                    have hb8 : Below w.heap.size w (V.drew.alloc (.cells #[.int .i32 (lo : Int), .int .i32 (hi2 : Int)] 79)) := (below_drewN hBV 1).alloc hBV.size _
                    have hB6 := below_set (below_own hb8 hb8.size (World.ownsRow.alloc OVd (.cells #[.int .i32 (lo : Int), .int .i32 (hi2 : Int)] 79)) (show w.heap.size ≤ w.heap.size + 2 by omega) g6) (show w.heap.size ≤ w.heap.size + 1 by omega) 1 (.slice A6 m6 d6)
                    have h9 : V.heap.size + 1 ≤ w6.heap.size := by (have := g6.size; rw [World.size_alloc] at this; exact this)
                    refine HK.out _ _ (Stand.of_grown g6 (fun k hk hlt => by have := (World.ownsRow.lt OVd k hk).1; omega)) ?_
                    clear HK
                    refine mix_endDk ?_
                    go_wp2_with fail
                    go_roundw
                    case rel => exact ⟨i + 3, S ++ [(lo, hi2)], .slice A6 m6 d6, by go_num, by omega, by omega, fun _ => by simp, HST.out, BX6.set_ 1 (.slice A6 m6 d6), own_set1 R6 h12 1 (.slice A6 m6 d6), B26, hB6, by have : w.heap.size + 2 ≤ V.heap.size := hszV; simp; omega⟩
                    case measure => simp [RowKit.intOf]; omega
              · have hie : i = j := by omega
                subst hie
                have hS0 := hSne (by omega)
                have HD := HCl.out.done hjl HJ.out
                have hcn : Hid (classP L = some (⟨K, S⟩, i + 1)) := Lib.hid (by rw [HC.out, HD]; simp [hS0]; omega)
                have HF3 := Lib.hid (hF3 (List.length_pos_iff.2 hS0))
                have h2 : w.heap.size < w.heap.size + 2 := by omega
                have q0 := BX.cell 0
                have q1 := BX.cell 1
                clear HD hS0
                go_wp2_with fail
                have zz := ((B2.set_ 0 (.int .i64 (K : Int))).set_ 1 (.slice A3 S.length c3)).cell
                simp at zz
                refine bodyPost_ret (v := .tuple #[.agg #[.int .i64 (K : Int), .slice A3 S.length c3], .int .i64 ((i : Int) + 1), .bool true]) (by simp [results, Tryd.results71, go_sem, zz]) rfl ?_
                obtain ⟨g, hA3, hg1, hg2, _⟩ := HF3.out
                have O9 := own_set1 (own_set1 OV h2 0 (.int .i64 (K : Int))) h2 1 (.slice A3 S.length c3)
                exact rcEnd_yes (m := i + 1) rfl hcn.out (Reads.of_own O9) (by intro ad h; rw [hA3] at h; injection h with h; subst h; exact ⟨by show w.heap.size ≤ g; omega, by simpa using hg2⟩) (below_set (below_set hB (Nat.le_refl _) 0 _) (Nat.le_refl _) 1 _)
        · have h93' : ((L[j] : Int) != 93) = true := by simp; omega
          have HX := HNO.out
          have HNO2 : Hid (∀ i (h : i < L.length), F ≤ i → i < j + 1 → L[i] ≠ 93) := Lib.hid (by
            intro i h h1 h2
            by_cases hij : i = j
            · subst hij; exact h93
            · exact HX i h h1 (by omega))
          clear HX h93
          generalize L[j] = x at *
          rw [hA]
          go_wp2_with fail
          go_round
          case rel => exact ⟨j + 1, by go_num, by omega, by omega, HNO2.out⟩
          case measure => simp [RowKit.intOf]; omega
      · have hcn : Hid (classP L = none) := Lib.hid (by
          have hL := HL.out
          have : R = none := by
            rw [← HRR.out]
            refine cl_none _ _ (Nat.le_refl _) fun hm => ?_
            obtain ⟨i, hi, he⟩ := List.getElem_of_mem hm
            rw [List.getElem_drop] at he
            simp at hi
            exact HNO.out (F + i) (by omega) (by omega) (by omega) he
          rw [HC.out, this])
        have hge : decide (n ≤ j) = true := by simp; omega
        go_wp2_with fail
        have zz := ((B2.set_ 0 (.int .i64 (K : Int))).set_ 1 (.slice none 0 0)).cell
        simp at zz
        refine bodyPost_ret (v := .tuple #[.agg #[.int .i64 (K : Int), .slice none 0 0], .int .i64 0, .bool false]) (by simp [results, Tryd.results71, go_sem, zz]) rfl ?_
        exact rcEnd_no (m := 0) rfl hcn.out (below_set (below_set hB (Nat.le_refl _) 0 _) (Nat.le_refl _) 1 _)
end Go.Proofs.YtedegdojbhegdaaDoor
