/- Contract of glob.class. -/
import Derived.Test.YtedegdojbhegdaaDoorGloA
import Derived.Test.YtedegdojbhegdaaDoorMixK
import Derived.Test.YtedegdojbhegdaaDoorRdr
import Derived.Deep.CutRange
namespace Go.Proofs.YtedegdojbhegdaaDoor
open Go.RowKit Go.Sort

def rv (r : Nat) : Value := .int .i32 (r : Int)
theorem rune_at {w : World} {B n : Nat} {A : Option Addr} {L : List Nat} (h : Reads w B 1 A n (L.map rv)) (hn : 0 < n) : ∃ b off, A = some ⟨b, off, none⟩ ∧ b < B ∧ ∀ k (hk : k < L.length), w.cell? ⟨b, off + k, none⟩ = some (.int .i32 (L[k] : Int)) := by
  obtain ⟨b, off, hA, hb, hc⟩ := h.formk hn (by decide)
  exact ⟨b, off, hA, hb, fun k hk => hc k _ (by simp [hk, rv])⟩
theorem runes_n {w : World} {B n : Nat} {A : Option Addr} {L : List Nat} (h : Reads w B 1 A n (L.map rv)) : L.length = n := by have := h.1; simpa using this
theorem sp2_one (q : Nat × Nat) : ∀ u ∈ sp2 q, u.oneCell' = true := by
  intro u hu
  simp only [sp2, List.mem_cons, List.mem_nil_iff, or_false] at hu
  rcases hu with rfl | rfl <;> rfl
theorem info_span : (Tryd.prog.info? 79).map (fun i => (i.zero, i.size, i.bytes)) = some (some (.agg #[.int .i32 0, .int .i32 0]), 2, 8) := by kernel_rfl
/-- A row of spans that the call owns. -/
def OwnP (w : World) (base : Nat) (v : Value) (S : List (Nat × Nat)) : Prop := w.ownsRow base 79 2 v S.length (S.flatMap sp2)
theorem OwnP.nil_ (w : World) (base : Nat) : OwnP w base (.slice none 0 0) [] := World.ownsRow_nil _ _ _ _
theorem append_span {ops : Array Oper} {rest : List Oper} {o : Oper} {a : Act} {Q : Exit → Act → World → Prop} (w : World) (q : Nat × Nat) (u : Array Value) (hu : u.toList = sp2 q) (t : TypeId) (hgd : o.guard = none) (sl x : Operand)
    (ho : o.op = .call { callee := .builtin .append, args := #[sl, x], argTypes := #[74, 74] }) (base : Nat) (v : Value) (S : List (Nat × Nat)) (hs : a.eval sl = v) (hown : OwnP w base v S)
    (hx : a.eval x = .slice (some ⟨w.heap.size, 0, none⟩) 1 1) (hlen : S.length ≤ 1000000000) (hbase : base ≤ w.heap.size)
    (h : ∀ v' w', OwnP w' base v' (S ++ [q]) → w.grownBy w' v.ownBlock → LiesIn w v v' → wpList Tryd.prog ops Q rest (a.put o.dst v') w') :
    wpList Tryd.prog ops Q (o :: rest) a (w.alloc (.cells u t)) := by
  refine append_elem w _ (sp2 q) hu t hgd sl x 74 ho base 79 _ 2 8 Tryd.underlying74 info_span rfl (by decide) v S.length (S.flatMap sp2) hs hown rfl (sp2_one q) hx (by unfold maxLen; omega) (by omega) hbase ?_
  intro v' w' h1 h2 h3
  refine h v' w' ?_ h2 h3
  unfold OwnP
  rw [List.flatMap_append, List.length_append]
  simpa using h1

theorem classP_at (L : List Nat) : ∃ (F : Nat) (NG : Bool), F ≤ L.length ∧ ((L[0]? = some 94 ∧ F = 1 ∧ NG = true) ∨ (L[0]? ≠ some 94 ∧ F = 0 ∧ NG = false)) ∧
    classP L = match cl (L.drop F) with | none => none | some (S, k) => if S = [] then none else some (⟨if NG then 1 else 0, S⟩, k + F) := by
  by_cases h : L.head? = some 94
  · rcases L with _ | ⟨a, t⟩
    · cases h
    · injection h with h
      subst h
      exact ⟨1, true, by simp, .inl ⟨rfl, rfl, rfl⟩, classP_not t⟩
  · exact ⟨0, false, Nat.zero_le _, .inr ⟨by rw [← List.head?_eq_getElem?]; exact h, rfl, rfl⟩, classP_in L h⟩
/-- What the loop through a class keeps. -/
def ClR (L : List Nat) (F : Nat) (R : Option (List (Nat × Nat) × Nat)) (i : Nat) (S : List (Nat × Nat)) : Prop :=
  F ≤ i ∧ i ≤ L.length ∧ S.length ≤ i ∧ (cl (L.drop i)).map (fun p => (S ++ p.1, p.2 + (i - F))) = R
theorem ClR.step1 {L : List Nat} {F i : Nat} {R : Option (List (Nat × Nat) × Nat)} {S : List (Nat × Nat)} (h : ClR L F R i S) (hi : i < L.length) (h93 : L[i] ≠ 93) (hn : ¬ (∃ h2 : i + 2 < L.length, L[i + 1] = 45 ∧ L[i + 2] ≠ 93)) : ClR L F R (i + 1) (S ++ [(L[i], L[i])]) := by
  obtain ⟨h1, h2, h3, h4⟩ := h
  refine ⟨by omega, hi, by simp; omega, ?_⟩
  rw [← h4, List.drop_eq_getElem_cons hi, cl_one _ _ h93 ?_]
  · cases cl (L.drop (i + 1)) with
    | none => rfl
    | some p => simp; omega
  · intro b u e
    refine Classical.byContradiction fun hb => hn ?_
    have hl : i + 2 < L.length := by
      have := congrArg List.length e
      simp at this
      omega
    refine ⟨hl, ?_, ?_⟩
    · have := congrArg (fun l => l[0]?) e
      simp only [List.getElem?_drop, Nat.add_zero, List.getElem?_cons_zero] at this
      rw [List.getElem?_eq_getElem (by omega)] at this
      exact Option.some.inj this
    · have := congrArg (fun l => l[1]?) e
      simp only [List.getElem?_drop, List.getElem?_cons_succ, List.getElem?_cons_zero] at this
      rw [List.getElem?_eq_getElem (by omega)] at this
      rw [show L[i + 2] = b from Option.some.inj this]
      exact hb
theorem cl_at (L : List Nat) (i : Nat) (hi : i + 2 < L.length) (h93 : L[i] ≠ 93) (h45 : L[i + 1] = 45) (hb : L[i + 2] ≠ 93) : cl (L.drop i) = if L[i + 2] < L[i] then none else (cl (L.drop (i + 3))).map fun p => ((L[i], L[i + 2]) :: p.1, p.2 + 3) := by
  rw [List.drop_eq_getElem_cons (show i < L.length by omega), List.drop_eq_getElem_cons (show i + 1 < L.length by omega), List.drop_eq_getElem_cons hi, h45, cl_span _ _ _ h93 hb]
theorem ClR.step3 {L : List Nat} {F i : Nat} {R : Option (List (Nat × Nat) × Nat)} {S : List (Nat × Nat)} (h : ClR L F R i S) (hi : i + 2 < L.length) (h93 : L[i] ≠ 93) (h45 : L[i + 1] = 45) (hb : L[i + 2] ≠ 93) (hle : L[i] ≤ L[i + 2]) : ClR L F R (i + 3) (S ++ [(L[i], L[i + 2])]) := by
  obtain ⟨h1, h2, h3, h4⟩ := h
  refine ⟨by omega, hi, by simp; omega, ?_⟩
  rw [← h4, cl_at L i hi h93 h45 hb, if_neg (by omega)]
  cases cl (L.drop (i + 3)) with
  | none => rfl
  | some p => simp; omega
theorem ClR.fail {L : List Nat} {F i : Nat} {R : Option (List (Nat × Nat) × Nat)} {S : List (Nat × Nat)} (h : ClR L F R i S) (hi : i + 2 < L.length) (h93 : L[i] ≠ 93) (h45 : L[i + 1] = 45) (hb : L[i + 2] ≠ 93) (hgt : L[i + 2] < L[i]) : R = none := by
  rw [← h.2.2.2, cl_at L i hi h93 h45 hb, if_pos hgt]
  rfl
theorem ClR.over {L : List Nat} {F i : Nat} {R : Option (List (Nat × Nat) × Nat)} {S : List (Nat × Nat)} (h : ClR L F R i S) (hi : ¬ i < L.length) : R = none := by
  rw [← h.2.2.2, List.drop_of_length_le (by omega)]
  rfl
theorem ClR.done {L : List Nat} {F i : Nat} {R : Option (List (Nat × Nat) × Nat)} {S : List (Nat × Nat)} (h : ClR L F R i S) (hi : i < L.length) (h93 : L[i] = 93) : R = some (S, 1 + (i - F)) := by
  rw [← h.2.2.2, List.drop_eq_getElem_cons hi, h93, cl_end]
  simp
/-- What a class's walk ends in. -/
def ClEnd (w : World) (L : List Nat) (x : Ending) (w' : World) : Prop :=
  ∃ (e : PS) (m : Nat) (ok : Bool), x = .returned (.tuple #[.agg (psC e), .int .i64 (m : Int), .bool ok]) ∧ ok = (classP L).isSome ∧
    (∀ p k, classP L = some (p, k) → e.p = p ∧ m = k ∧ Reads w' w'.heap.size 2 e.A e.n e.x ∧ ∀ ad, e.A = some ad → w.heap.size ≤ ad.block ∧ ad.block < w'.heap.size) ∧ Below w.heap.size w w'

theorem psC_in (NG : Bool) (S : List (Nat × Nat)) (A : Option Addr) (n c : Nat) : psC ⟨⟨if NG then 1 else 0, S⟩, A, n, c⟩ = #[.bool false, .bool false, .bool NG, .slice A n c] := by cases NG <;> rfl
theorem clEnd_no {w w' : World} {L : List Nat} {NG : Bool} {A : Option Addr} {n c m : Nat} {x : Ending} (hx : x = .returned (.tuple #[.agg #[.bool false, .bool false, .bool NG, .slice A n c], .int .i64 (m : Int), .bool false])) (hc : classP L = none) (hB : Below w.heap.size w w') : ClEnd w L x w' :=
  ⟨⟨⟨if NG then 1 else 0, []⟩, A, n, c⟩, m, false, by rw [psC_in]; exact hx, by rw [hc]; rfl, fun p k h => (by rw [hc] at h; cases h), hB⟩
theorem clEnd_yes {w w' : World} {L : List Nat} {NG : Bool} {A : Option Addr} {n c m : Nat} {S : List (Nat × Nat)} {x : Ending} (hx : x = .returned (.tuple #[.agg #[.bool false, .bool false, .bool NG, .slice A n c], .int .i64 (m : Int), .bool true])) (hc : classP L = some (⟨if NG then 1 else 0, S⟩, m))
    (hr : Reads w' w'.heap.size 2 A n (S.flatMap sp2)) (hn : ∀ ad, A = some ad → w.heap.size ≤ ad.block ∧ ad.block < w'.heap.size) (hB : Below w.heap.size w w') : ClEnd w L x w' :=
  ⟨⟨⟨if NG then 1 else 0, S⟩, A, n, c⟩, m, true, by rw [psC_in]; exact hx, by rw [hc]; rfl, fun p k h => (by rw [hc] at h; injection h with h; injection h with h1 h2; subst h1 h2; exact ⟨rfl, rfl, hr, hn⟩), hB⟩

set_option maxRecDepth 100000 in
set_option maxHeartbeats 4000000 in
theorem glob_class (A : Option Addr) (n c : Nat) (L : List Nat) (w : World) (hr : Reads w w.heap.size 1 A n (L.map rv)) (hn : n ≤ 1000) :
    Calls Tryd.prog 50 #[.slice A n c] w (ClEnd w L) := by
  have hl := runes_n hr
  obtain ⟨F, NG, hF, hcase, hcl⟩ := classP_at L
  have HR := Lib.hid hr
  have HL := Lib.hid hl
  have HC := Lib.hid hcl
  have HF := Lib.hid hF
  clear hr hl hcl hF
  obtain ⟨R, hR⟩ : ∃ R, cl (L.drop F) = R := ⟨_, rfl⟩
  have HS : Hid (ClR L F R F []) := Lib.hid ⟨Nat.le_refl _, HF.out, Nat.zero_le _, by rw [← hR]; cases cl (L.drop F) <;> simp⟩
  rw [hR] at HC
  clear hR
  have B2 := (Blk.new w 76 #[.bool false, .bool false, .bool false, .slice none 0 0]).alloc (.cells #[.bool false, .bool false, .bool false, .slice none 0 0] 76)
  have B5 := Blk.new (w.alloc (.cells #[.bool false, .bool false, .bool false, .slice none 0 0] 76)) 76 #[.bool false, .bool false, .bool false, .slice none 0 0]
  have hB : Below w.heap.size w ((w.alloc (.cells #[.bool false, .bool false, .bool false, .slice none 0 0] 76)).alloc (.cells #[.bool false, .bool false, .bool false, .slice none 0 0] 76)) := ((Below.refl _ _).alloc (Nat.le_refl _) _).alloc (by simp) _
  have hsz : w.heap.size + 2 ≤ ((w.alloc (.cells #[.bool false, .bool false, .bool false, .slice none 0 0] 76)).alloc (.cells #[.bool false, .bool false, .bool false, .slice none 0 0] 76)).heap.size := by simp
  simp only [World.size_alloc] at B5
  go_enter Tryd.func50, Tryd.ntmps50
  go_upto_region 3 with fail
  generalize (w.alloc (.cells #[.bool false, .bool false, .bool false, .slice none 0 0] 76)).alloc (.cells #[.bool false, .bool false, .bool false, .slice none 0 0] 76) = W at *
  go_cut [20] from 10 to 97 (fun s20 wx => s20 = .bool NG ∧ wx = W)
  case first =>
    by_cases hn0 : 0 < n
    · obtain ⟨b, off, hA, hb, hc⟩ := rune_at (HR.out.below hB) hn0
      have hl0 : 0 < L.length := by have := HL.out; omega
      have c0 := hc 0 hl0
      rw [Nat.add_zero] at c0
      have hx : ((L[0] : Int) == 94) = NG := by
        rw [List.getElem?_eq_getElem hl0] at hcase
        rcases hcase with ⟨h, _, rfl⟩ | ⟨h, _, rfl⟩
        · simp at h ⊢
          omega
        · simp at h ⊢
          omega
      generalize L[0] = x at *
      have HA := Lib.hid hA
      rw [hA]
      clear hc hA hcase
      go_wp2_with fail
      rw [← HA.out]
      go_meet
      case rel => exact ⟨rfl, rfl⟩
    · have hx : NG = false := by
        rcases hcase with ⟨h, _, _⟩ | ⟨_, _, h⟩
        · have := (List.getElem?_eq_some_iff.1 h).1
          have := HL.out
          omega
        · exact h
      clear hcase
      go_wp2_with fail
      go_meet
      case rel => exact ⟨by rw [hx], rfl⟩
  case rest =>
  obtain ⟨rfl, rfl⟩ := hcut
  go_upto_if 20 with fail
  go_cut [6] from 10 to 97 (fun s6 wx => s6 = .int .i64 (F : Int) ∧ Blk wx (w.heap.size + 1) 76 #[.bool false, .bool false, .bool NG, .slice none 0 0] ∧ Blk wx w.heap.size 76 #[.bool false, .bool false, .bool false, .slice none 0 0] ∧ Below w.heap.size w wx ∧ w.heap.size + 2 ≤ wx.heap.size)
  case first =>
    rcases hcase with ⟨h94, hF1, rfl⟩ | ⟨h94, hF0, rfl⟩
    · have hs9 : w.heap.size + 2 ≤ (wc.setCell ⟨w.heap.size + 1, 2, none⟩ (.bool true)).heap.size := by simpa using hsz
      have HF1 : Hid ((1 : Int) = F) := Lib.hid (by rw [hF1]; rfl)
      clear h94 hF1
      have f5 := B5.frozen
      have c5 := B5.cell
      go_wp2_with fail
      go_meet
      case rel => exact ⟨by rw [← HF1.out], B5.set_ 2 (.bool true), B2.far (p := ⟨w.heap.size + 1, 2, none⟩) (show w.heap.size ≠ w.heap.size + 1 by omega) (.bool true), below_set hB (show w.heap.size ≤ w.heap.size + 1 by omega) 2 (.bool true), hs9⟩
    · have HF1 : Hid ((0 : Int) = F) := Lib.hid (by rw [hF0]; rfl)
      clear h94 hF0
      go_wp2_with fail
      go_meet
      case rel => exact ⟨by rw [← HF1.out], B5, B2, hB, hsz⟩
  case rest =>
    clear B5 B2 hB hsz hcase
    obtain ⟨rfl, BX, B2, hB, hsz⟩ := hcut
    go_wp2_with fail
    go_loopw [6] (fun v6 wr => ∃ (i : Nat) (S : List (Nat × Nat)) (v : Value), v6 = .int .i64 i ∧ ClR L F R i S ∧ Blk wr (w.heap.size + 1) 76 #[.bool false, .bool false, .bool NG, v] ∧ OwnP wr (w.heap.size + 2) v S ∧ Blk wr w.heap.size 76 #[.bool false, .bool false, .bool false, .slice none 0 0] ∧ Below w.heap.size w wr ∧ w.heap.size + 2 ≤ wr.heap.size) (fun v6 _ => n - (RowKit.intOf v6).toNat)
    case atStart => exact ⟨F, [], _, rfl, HS.out, BX, OwnP.nil_ _ _, B2, hB, hsz⟩
    case round =>
      clear BX B2 hB hsz
      obtain ⟨i, S, v, rfl, HCl, BX, OV, B2, hB, hsz⟩ := hrel
      replace HCl := Lib.hid HCl
      have hS : S.length ≤ 1000 := by have := HCl.out.2.2.1; have := HCl.out.2.1; have := HL.out; omega
      obtain ⟨A3, c3, rfl, _, _, hF3⟩ := own_form OV
      have x0 : ∀ p : Kept (fun k => k ≠ w.heap.size) wr.drew, p.v.cell? ⟨w.heap.size + 1, 0, none⟩ = some (.bool false) := fun p => p.h.cell (show w.heap.size + 1 ≠ w.heap.size by omega) (BX.drew.cell 0)
      have x1 : ∀ p : Kept (fun k => k ≠ w.heap.size) wr.drew, p.v.cell? ⟨w.heap.size + 1, 1, none⟩ = some (.bool false) := fun p => p.h.cell (show w.heap.size + 1 ≠ w.heap.size by omega) (BX.drew.cell 1)
      have x2 : ∀ p : Kept (fun k => k ≠ w.heap.size) wr.drew, p.v.cell? ⟨w.heap.size + 1, 2, none⟩ = some (.bool NG) := fun p => p.h.cell (show w.heap.size + 1 ≠ w.heap.size by omega) (BX.drew.cell 2)
      have x3 : ∀ p : Kept (fun k => k ≠ w.heap.size) wr.drew, p.v.cell? ⟨w.heap.size + 1, 3, none⟩ = some (.slice A3 S.length c3) := fun p => p.h.cell (show w.heap.size + 1 ≠ w.heap.size by omega) (BX.drew.cell 3)
      have C2 := B2.cell
      have f2 : ∀ i, wr.frozen? ⟨w.heap.size, i, none⟩ = false := B2.frozen
      have hi1 : i ≤ 1000 := by have := HCl.out.2.1; have := HL.out; omega
      by_cases hin : i < n
      · have hil : i < L.length := by have := HL.out; omega
        obtain ⟨b, off, rfl, hb, hc⟩ := rune_at (HR.out.below hB) (by omega)
        have HCC := Lib.hid hc
        have c0 := hc i hil
        clear hc
        by_cases h93 : L[i] = 93
        · have HD := Lib.hid (HCl.out.done hil h93)
          rw [h93] at c0
          clear h93
          have hFi := HCl.out.1
          by_cases hS0 : S = []
          · have hd : decide (0 < S.length) = false := by rw [hS0]; rfl
            have hcn : Hid (classP L = none) := Lib.hid (by rw [HC.out, HD.out]; simp [hS0])
            clear hS0
            go_wp2_with fail
            refine wp_region_mixDk (M := []) (fun k => k ≠ w.heap.size) [0, 1, 2, 3, 4, 5, 6, 7, 8, 9, 10, 11, 12, 13, 14, 15] (by kernel_rfl) (by kernel_rfl) ?_
            iterate 13 (refine mix_calmDk rfl rfl ?_; go_big_quiet_step (fail); refine wpQuiet_nil ?_)
            refine mix_loudDk rfl (by kernel_rfl) rfl ?_
            intro K1 hK1
            have HK := Lib.hid hK1
            clear hK1
            go_wp2_with fail
            refine HK.out _ _ (Stand.of_grown (grown_trans' (grown_trans' (grown_trans' (only_set _ w.heap.size 0 _) (only_set _ w.heap.size 1 _)) (only_set _ w.heap.size 2 _)) (only_set _ w.heap.size 3 _)) (fun k e h => h (Option.some.inj e).symm)) ?_
            clear HK
            iterate 2 (refine mix_calmDk rfl rfl ?_; go_big_quiet_step (fail); refine wpQuiet_nil ?_)
            refine mix_endDk ?_
            go_wp2_with fail
            have zz := (((((B2.set_ 0 (.bool false)).set_ 1 (.bool false)).set_ 2 (.bool NG)).set_ 3 (.slice A3 S.length c3)).drew).cell
            simp at zz
            refine bodyPost_ret (v := .tuple #[.agg #[.bool false, .bool false, .bool NG, .slice A3 S.length c3], .int .i64 ((i : Int) + 1), .bool false]) (by simp [results, Tryd.results50, go_sem, zz]) rfl ?_
            exact clEnd_no (m := i + 1) rfl hcn.out (below_set (below_set (below_set (below_set (below_drewN hB 1) (Nat.le_refl _) 0 (.bool false)) (Nat.le_refl _) 1 (.bool false)) (Nat.le_refl _) 2 (.bool NG)) (Nat.le_refl _) 3 (.slice A3 S.length c3))
          · have hd : decide (0 < S.length) = true := by simp; exact List.length_pos_iff.2 hS0
            have hcn : Hid (classP L = some (⟨if NG then 1 else 0, S⟩, i + 1)) := Lib.hid (by rw [HC.out, HD.out]; simp [hS0]; omega)
            clear hS0
            go_wp2_with fail
            refine wp_region_mixDk (M := []) (fun k => k ≠ w.heap.size) [0, 1, 2, 3, 4, 5, 6, 7, 8, 9, 10, 11, 12, 13, 14, 15] (by kernel_rfl) (by kernel_rfl) ?_
            iterate 13 (refine mix_calmDk rfl rfl ?_; go_big_quiet_step (fail); refine wpQuiet_nil ?_)
            refine mix_loudDk rfl (by kernel_rfl) rfl ?_
            intro K1 hK1
            have HK := Lib.hid hK1
            clear hK1
            go_wp2_with fail
            refine HK.out _ _ (Stand.of_grown (grown_trans' (grown_trans' (grown_trans' (only_set _ w.heap.size 0 _) (only_set _ w.heap.size 1 _)) (only_set _ w.heap.size 2 _)) (only_set _ w.heap.size 3 _)) (fun k e h => h (Option.some.inj e).symm)) ?_
            clear HK
            iterate 2 (refine mix_calmDk rfl rfl ?_; go_big_quiet_step (fail); refine wpQuiet_nil ?_)
            refine mix_endDk ?_
            go_wp2_with fail
            have zz := (((((B2.set_ 0 (.bool false)).set_ 1 (.bool false)).set_ 2 (.bool NG)).set_ 3 (.slice A3 S.length c3)).drew).cell
            simp at zz
            refine bodyPost_ret (v := .tuple #[.agg #[.bool false, .bool false, .bool NG, .slice A3 S.length c3], .int .i64 ((i : Int) + 1), .bool true]) (by simp [results, Tryd.results50, go_sem, zz]) rfl ?_
            have hB9 := (below_set (below_set (below_set (below_set (below_drewN hB 1) (Nat.le_refl _) 0 (.bool false)) (Nat.le_refl _) 1 (.bool false)) (Nat.le_refl _) 2 (.bool NG)) (Nat.le_refl _) 3 (.slice A3 S.length c3))
            obtain ⟨g, hA3, hg1, hg2, _⟩ := hF3 (by simpa using hd)
            have h2 : w.heap.size < w.heap.size + 2 := by omega
            have O9 := own_set1 (own_set1 (own_set1 (own_set1 (w := wr.drewN 1) OV h2 0 (.bool false)) h2 1 (.bool false)) h2 2 (.bool NG)) h2 3 (.slice A3 S.length c3)
            exact clEnd_yes (m := i + 1) rfl hcn.out (Reads.of_own O9) (by intro ad h; rw [hA3] at h; injection h with h; subst h; exact ⟨by show w.heap.size ≤ g; omega, by simpa using hg2⟩) hB9
        · have d0 : ∀ m, (wr.drewN m).cell? ⟨b, off + i, none⟩ = some (.int .i32 (L[i] : Int)) := fun _ => c0
          have y3 : ∀ m, (wr.drewN m).cell? ⟨w.heap.size + 1, 3, none⟩ = some (.slice A3 S.length c3) := fun _ => BX.cell 3
          have F2 : ∀ m i, (wr.drewN m).frozen? ⟨w.heap.size, i, none⟩ = false := fun _ => B2.frozen
          have D2 : ∀ m i, (wr.drewN m).cell? ⟨w.heap.size, i, none⟩ = _ := fun _ => B2.cell
          have hne : some (w.heap.size + 1) ≠ (Value.slice A3 S.length c3).ownBlock := fun e => by have := (World.ownsRow.lt OV _ e.symm).1; omega
          have hne2 : some w.heap.size ≠ (Value.slice A3 S.length c3).ownBlock := fun e => by have := (World.ownsRow.lt OV _ e.symm).1; omega
          have hcase : (∃ HST : ClR L F R (i + 1) (S ++ [(L[i], L[i])]), (¬ i + 2 < n) ∨ (i + 2 < n ∧ ∃ x : Nat, (∀ m, (wr.drewN m).cell? ⟨b, off + (i + 1), none⟩ = some (.int .i32 (x : Int))) ∧ ((x : Int) == 45) = false) ∨
              (i + 2 < n ∧ (∀ m, (wr.drewN m).cell? ⟨b, off + (i + 1), none⟩ = some (.int .i32 45)) ∧ (∀ m, (wr.drewN m).cell? ⟨b, off + (i + 2), none⟩ = some (.int .i32 93)))) ∨
              (i + 2 < n ∧ (∀ m, (wr.drewN m).cell? ⟨b, off + (i + 1), none⟩ = some (.int .i32 45)) ∧ ∃ x : Nat, (∀ m, (wr.drewN m).cell? ⟨b, off + (i + 2), none⟩ = some (.int .i32 (x : Int))) ∧ ((x : Int) != 93) = true ∧ ((x < L[i] ∧ R = none) ∨ (¬ x < L[i] ∧ ClR L F R (i + 3) (S ++ [(L[i], x)])))) := by
            have hLn := HL.out
            by_cases h2 : i + 2 < n
            · have e1 : ∀ m, (wr.drewN m).cell? ⟨b, off + (i + 1), none⟩ = some (.int .i32 (L[i + 1] : Int)) := fun _ => HCC.out (i + 1) (by omega)
              have e2 : ∀ m, (wr.drewN m).cell? ⟨b, off + (i + 2), none⟩ = some (.int .i32 (L[i + 2] : Int)) := fun _ => HCC.out (i + 2) (by omega)
              by_cases h45 : L[i + 1] = 45
              · rw [h45] at e1
                by_cases hb93 : L[i + 2] = 93
                · rw [hb93] at e2
                  exact .inl ⟨HCl.out.step1 hil h93 (fun ⟨_, _, h⟩ => h hb93), .inr (.inr ⟨h2, e1, e2⟩)⟩
                · refine .inr ⟨h2, e1, L[i + 2], e2, by simp; omega, ?_⟩
                  by_cases hlt : L[i + 2] < L[i]
                  · exact .inl ⟨hlt, HCl.out.fail (by omega) h93 h45 hb93 hlt⟩
                  · exact .inr ⟨hlt, HCl.out.step3 (by omega) h93 h45 hb93 (by omega)⟩
              · exact .inl ⟨HCl.out.step1 hil h93 (fun ⟨_, h, _⟩ => h45 h), .inr (.inl ⟨h2, _, e1, by simp; omega⟩)⟩
            · exact .inl ⟨HCl.out.step1 hil h93 (fun ⟨h, _⟩ => h2 (by omega)), .inl h2⟩
          obtain ⟨lo, hlo⟩ : ∃ lo, L[i] = lo := ⟨_, rfl⟩
          simp only [hlo] at d0 c0 h93 hcase
          have h93' : ((lo : Int) != 93) = true := by simp; omega
          have hll : decide (lo < lo) = false := by simp
          clear hlo h93 HCC x0 x1 x2 x3 f2 C2
          go_wp2_with fail
          go_quiet (fail)
          go_upto_region 8 with fail
          go_cut [63] from 24 to 84 (fun s63 wx => ∃ q : Bool, s63 = .bool q ∧ wx = wr.drewN nq ∧ ((q = false ∧ ClR L F R (i + 1) (S ++ [(lo, lo)])) ∨ (q = true ∧ i + 2 < n ∧ ∃ x : Nat, (∀ m, (wr.drewN m).cell? ⟨b, off + (i + 2), none⟩ = some (.int .i32 (x : Int))) ∧ ((x < lo ∧ R = none) ∨ (¬ x < lo ∧ ClR L F R (i + 3) (S ++ [(lo, x)]))))))
          case first =>
            rcases hcase with ⟨HST, hk⟩ | ⟨h2, e1, hi, e2, hx, HST⟩
            · have HST := Lib.hid HST
              rcases hk with h2 | ⟨h2, x, e1, hx⟩ | ⟨h2, e1, e2⟩
              all_goals
                go_wp2_with fail
                go_meet
                case rel => exact ⟨false, rfl, rfl, .inl ⟨rfl, HST.out⟩⟩
            · have HST := Lib.hid HST
              go_wp2_with fail
              go_meet
              case rel => exact ⟨true, rfl, rfl, .inr ⟨rfl, h2, hi, e2, HST.out⟩⟩
          case rest =>
          clear hcase
          obtain ⟨q, rfl, rfl, hq⟩ := hcut
          go_upto_if 63 with fail
          go_cut [6, 8] from 24 to 84 (fun s6 s8 wx => ∃ hi j : Nat, s6 = .int .i64 (j : Int) ∧ s8 = .int .i32 (hi : Int) ∧ wx = wr.drewN nq ∧ i ≤ j ∧ j ≤ 1002 ∧ ((hi < lo ∧ R = none) ∨ (¬ hi < lo ∧ ClR L F R (j + 1) (S ++ [(lo, hi)]))))
          case first =>
            rcases hq with ⟨rfl, HST⟩ | ⟨rfl, h2, hi, e2, HST⟩
            · have HST := Lib.hid HST
              go_wp2_with fail
              go_meet
              case rel => exact ⟨lo, i, rfl, rfl, rfl, Nat.le_refl _, by omega, .inr ⟨Nat.lt_irrefl _, HST.out⟩⟩
            · have HST := Lib.hid HST
              go_wp2_with fail
              go_meet
              case rel => exact ⟨hi, i + 2, by go_num, rfl, rfl, by omega, by omega, HST.out⟩
          case rest =>
            clear hq d0
            obtain ⟨hi, j, rfl, rfl, rfl, hij, hj, hh⟩ := hcut
            rcases hh with ⟨hlt, hRn⟩ | ⟨hle, HST⟩
            · have hcn : Hid (classP L = none) := Lib.hid (by rw [HC.out, hRn])
              clear hRn
              go_wp2_with fail
              have zz := (((((B2.drewN nq).set_ 0 (.bool false)).set_ 1 (.bool false)).set_ 2 (.bool false)).set_ 3 (.slice none 0 0)).cell
              simp at zz
              refine bodyPost_ret (v := .tuple #[.agg #[.bool false, .bool false, .bool false, .slice none 0 0], .int .i64 0, .bool false]) (by simp [results, Tryd.results50, go_sem, zz]) rfl ?_
              exact clEnd_no (NG := false) (m := 0) rfl hcn.out (below_set (below_set (below_set (below_set (below_drewN hB nq) (Nat.le_refl _) 0 (.bool false)) (Nat.le_refl _) 1 (.bool false)) (Nat.le_refl _) 2 (.bool false)) (Nat.le_refl _) 3 (.slice none 0 0))
            · have HST := Lib.hid HST
              go_wp2_with (at_builtin; refine append_span _ (lo, hi) _ rfl _ rfl _ _ rfl (w.heap.size + 2) (.slice A3 S.length c3) S rfl OV rfl (by omega) hsz ?_; intro v6 w6 R6 g6 L6; obtain ⟨A6, m6, d6, rfl⟩ := own_slice R6; have BX6 := Blk.grown (BX.drewN nq) g6 hne; have f6 := BX6.frozen; have c6 := BX6.cell)
              have h12 : w.heap.size + 1 < w.heap.size + 2 := by omega
              have B26 := (Blk.grown (B2.drewN nq) g6 hne2).far (p := ⟨w.heap.size + 1, 3, none⟩) (show w.heap.size ≠ w.heap.size + 1 by omega) (.slice A6 m6 d6)
              have hB6 := below_set (below_own (w := wr.drewN nq) (below_drewN hB nq) hB.size OV (show w.heap.size ≤ w.heap.size + 2 by omega) g6) (show w.heap.size ≤ w.heap.size + 1 by omega) 3 (.slice A6 m6 d6)
              go_roundw
              case rel =>
                exact ⟨j + 1, S ++ [(lo, hi)], .slice A6 m6 d6, by go_num, HST.out, BX6.set_ 3 (.slice A6 m6 d6), own_set1 R6 h12 3 (.slice A6 m6 d6), B26, hB6, by have h9 : wr.heap.size ≤ w6.heap.size := g6.size; simp; omega⟩
              case measure => simp [RowKit.intOf]; omega
      · have HD := Lib.hid (HCl.out.over (by have := HL.out; omega))
        have hcn : Hid (classP L = none) := Lib.hid (by rw [HC.out, HD.out])
        go_wp2_with fail
        refine wp_region_mixDk (M := []) (fun k => k ≠ w.heap.size) [0, 1, 2, 3, 4, 5, 6, 7, 8, 9, 10, 11, 12, 13, 14, 15] (by kernel_rfl) (by kernel_rfl) ?_
        iterate 13 (refine mix_calmDk rfl rfl ?_; go_big_quiet_step (fail); refine wpQuiet_nil ?_)
        refine mix_loudDk rfl (by kernel_rfl) rfl ?_
        intro K1 hK1
        have HK := Lib.hid hK1
        clear hK1
        go_wp2_with fail
        refine HK.out _ _ (Stand.of_grown (grown_trans' (grown_trans' (grown_trans' (only_set _ w.heap.size 0 _) (only_set _ w.heap.size 1 _)) (only_set _ w.heap.size 2 _)) (only_set _ w.heap.size 3 _)) (fun k e h => h (Option.some.inj e).symm)) ?_
        clear HK
        iterate 2 (refine mix_calmDk rfl rfl ?_; go_big_quiet_step (fail); refine wpQuiet_nil ?_)
        refine mix_endDk ?_
        go_wp2_with fail
        have zz := (((((B2.set_ 0 (.bool false)).set_ 1 (.bool false)).set_ 2 (.bool NG)).set_ 3 (.slice A3 S.length c3)).drew).cell
        simp at zz
        refine bodyPost_ret (v := .tuple #[.agg #[.bool false, .bool false, .bool NG, .slice A3 S.length c3], .int .i64 ((i : Int) + 1), .bool false]) (by simp [results, Tryd.results50, go_sem, zz]) rfl ?_
        exact clEnd_no (m := i + 1) rfl hcn.out (below_set (below_set (below_set (below_set (below_drewN hB 1) (Nat.le_refl _) 0 (.bool false)) (Nat.le_refl _) 1 (.bool false)) (Nat.le_refl _) 2 (.bool NG)) (Nat.le_refl _) 3 (.slice A3 S.length c3))
end Go.Proofs.YtedegdojbhegdaaDoor
