/- Contract of the law's add. -/
import Derived.Test.YtfkooohnaodjmaaHinG
import Derived.ArgAppend
namespace Go.Proofs.Ytfkooohnaodjmaa
open Go.RowKit Go.Sort

set_option maxRecDepth 100000 in
/-- 'append(l[:len(l):len(l)], x)': always into new memory. -/
theorem append_hint_cut {ops : Array Oper} {rest : List Oper} {o : Oper} {a : Act} {Q : Exit → Act → World → Prop} (w : World) (x0 : HintS) (u : Array Value) (hu : u.toList = hintL x0) (t : TypeId) (hgd : o.guard = none) (sl x : Operand)
    (ho : o.op = .call { callee := .builtin .append, args := #[sl, x], argTypes := #[24, 24] }) (A : Option Addr) (n : Nat) (L : List HintS) (hs : a.eval sl = .slice A n n) (hr : Reads w w.heap.size 12 A n (L.flatMap hintL))
    (hx : a.eval x = .slice (some ⟨w.heap.size, 0, none⟩) 1 1) (hlen : n ≤ 1000000)
    (h : ∀ v' w', OwnH w' w.heap.size v' (L ++ [x0]) → Below (w.alloc (.cells u t)).heap.size (w.alloc (.cells u t)) w' → wpList Try.prog ops Q rest (a.put o.dst v') w') :
    wpList Try.prog ops Q (o :: rest) a (w.alloc (.cells u t)) := by
  have hn := hints_n hr
  rcases A with _ | ad
  · have h0 : n = 0 := by
      rcases Nat.eq_zero_or_pos n with h | h
      · exact h
      · obtain ⟨ad, h1, _⟩ := hr.2 h
        cases h1
    subst h0
    have hl := List.eq_nil_of_length_eq_zero hn
    subst hl
    refine append_hint w x0 u hu t hgd sl x ho w.heap.size (.slice none 0 0) [] hs (World.ownsRow_nil _ _ _ _) hx (by simp) (Nat.le_refl _) ?_
    intro v' w' h1 h2 h3
    exact h v' w' h1 ⟨h2.os, h2.tape, h2.output, h2.size, fun k hk => h2.block k hk (fun e => by cases e)⟩
  · obtain ⟨i0, hi, hz0, hz1, hz2⟩ := info_parts info_hint
    refine wpList_plain hgd fun K hK => ?_
    obtain ⟨v', w', hrun, r1, r2⟩ := run_append_arg_grows (P := Try.prog) (w.alloc (.cells u t)) 24 o.type 45 i0 (.agg #[.int .i64 0, .int .i64 0, .int .i64 0, .int .i64 0, .string ⟨#[]⟩, .string ⟨#[]⟩, .string ⟨#[]⟩, .int .i64 0, .int .i64 0, .int .i64 0, .int .i64 0, .slice none 0 0]) 12 136 Try.underlying24 hi hz0 hz1 hz2 rfl (by decide) ad n n (L.flatMap hintL) (by rw [flat_len hintL 12 hintL_len, hn])
      (fun j y hj => by
        have h0 : 0 < n := by
          rcases Nat.eq_zero_or_pos n with h | h
          · rw [h] at hn
            rw [List.eq_nil_of_length_eq_zero hn] at hj
            simp at hj
          · exact h
        obtain ⟨ad2, h1, hb, hc⟩ := hr.2 h0
        injection h1 with h1
        subst h1
        rw [← hc j y hj]
        exact World.cell?_alloc_lt w _ _ (by rw [block_of_add]; exact hb)) ⟨w.heap.size, 0, none⟩ 1 1 (hintL x0) rfl
      (fun j y hj => by
        have h2 := (reads_new w t 12 u _ hu rfl).2 (by decide)
        obtain ⟨ad2, h1, -, hc⟩ := h2
        injection h1 with h1
        subst h1
        exact hc j y hj) (by omega) (by unfold maxLen; omega) (by omega)
    have hq := h v' w' (by unfold OwnH; rw [List.flatMap_append, List.length_append, hn]; have := own_base (base' := w.heap.size) r1 (by simp); simpa using this) ⟨r2.os, r2.tape, r2.output, r2.size, fun k hk => r2.block k hk (by simp)⟩
    unfold Oper.wp
    simp [execOp, ho, resolve, invoke, builtin, hs, hx, hrun, Result.andThen]
    exact hK _ _ hq

def LAddE (w : World) (base : Nat) (A : Option Addr) (o : OpS) (H : List HintP) (e : Ending) (w' : World) : Prop :=
  ∃ A' n' c' L', e = .returned (.tuple #[.slice A' n' c', .bool (addB H o.to o.e.m)]) ∧ LawL w' base A' n' L' ∧ L'.map hp = addH H o.to o.now o.e.m ∧ (A' = A ∨ ∀ ad, A' = some ad → w.heap.size ≤ ad.block) ∧ (A' = none → c' = 0) ∧ n' ≤ c' ∧ Below w.heap.size w w'
attribute [local go_sem] max_ints min_ints

set_option maxRecDepth 100000 in
set_option maxHeartbeats 4000000 in
theorem law28_add (A : Option Addr) (n c : Nat) (L : List HintS) (o : OpS) (base : Nat) (w : World) (hL : LawL w base A n L) (hb : base ≤ w.heap.size) (hn : n ≤ 1000) (hnc : n ≤ c) (hAc : A = none → c = 0) (ho : Reads w base 3 o.e.A o.e.n (o.e.m.ov.flatMap sc)) (hoz : o.e.n ≤ 1000000000 ∧ (o.e.A = none → o.e.c = 0)) :
    Calls Try.prog 5 #[.slice A n c, .agg (opC o)] w (LAddE w base A o (L.map hp)) := by
  have HN := Lib.hid hL.n_eq
  obtain ⟨W, hW⟩ : ∃ W, w.alloc (.cells (opC o) 35) = W := ⟨_, rfl⟩
  have bW : Below w.heap.size w W := by rw [← hW]; exact (Below.refl _ _).alloc (Nat.le_refl _) _
  have BO : Blk W w.heap.size 35 (opC o) := by rw [← hW]; exact Blk.new _ _ _
  have HL := Lib.hid (hL.below bW hb)
  have HO := Lib.hid ((ho.below (bW.mono hb)).more (Nat.le_trans hb bW.size))
  have HOB := Lib.hid (ho.below (bW.mono hb))
  have hsW : w.heap.size + 1 ≤ W.heap.size := BO.lt
  have hbW : base ≤ W.heap.size := by omega
  unfold opC at hW
  clear hL ho
  unfold opC
  go_enter Try.func5, Try.ntmps5
  go_wp2_with fail
  clear hW
  go_loopw [6] (fun v6 wr => ∃ k : Nat, v6 = .int .i64 k ∧ k ≤ n ∧ ((L.take k).any fun x => decide (x.to = o.to) && (cmpM x.e.m o.e.m == 0)) = false ∧ Blk wr w.heap.size 35 (opC o) ∧ Below W.heap.size W wr) (fun v6 _ => n - (intOf v6).toNat)
  case atStart => exact ⟨0, rfl, Nat.zero_le _, rfl, BO, Below.refl _ _⟩
  case round =>
    clear BO
    obtain ⟨k, rfl, hkn, hD, BO, hB⟩ := hrel
    have HD := Lib.hid hD
    clear hD
    by_cases hlt : k < n
    · have hkl : k < L.length := by have := HN.out; omega
      have hl0 := HL.out.below hB hbW
      obtain ⟨b, off, hA, hbb, hc⟩ := hint_at hl0.rd hkl
      subst hA
      have hrow := (hl0.el _ (List.getElem_mem hkl)).more (Nat.le_trans hbW hB.size)
      have hok := hl0.ok _ (List.getElem_mem hkl)
      have hnx : ((L.take (k + 1)).any fun x => decide (x.to = o.to) && (cmpM x.e.m o.e.m == 0)) = (decide (L[k].to = o.to) && (cmpM L[k].e.m o.e.m == 0)) := by
        rw [List.take_succ_eq_append_getElem hkl, List.any_append, HD.out, Bool.false_or]
        simp
      have hany : (decide (L[k].to = o.to) && (cmpM L[k].e.m o.e.m == 0)) = true → addB (L.map hp) o.to o.e.m = false := fun h => by
        have : (L.map hp).any (fun x => decide (x.to = o.to) && (cmpM x.m o.e.m == 0)) = true := List.any_eq_true.2 ⟨hp L[k], List.mem_map.2 ⟨_, List.getElem_mem hkl, rfl⟩, h⟩
        unfold addB
        rw [this]
        simp
      obtain ⟨x, hx⟩ : ∃ x, L[k]'hkl = x := ⟨_, rfl⟩
      rw [hx] at hc hnx hrow hok hany
      have orow := (HO.out.below hB).more hB.size

      have q0 : wr.cell? ⟨b, off + k * 12, none⟩ = some (.int .i64 x.to) := hc 0 _ (by decide) rfl
      have q1 : wr.cell? ⟨b, off + k * 12 + 1, none⟩ = some (.int .i64 x.until_) := hc 1 _ (by decide) rfl
      have q2 : wr.cell? ⟨b, off + k * 12 + 2, none⟩ = some (.int .i64 x.e.m.tab) := hc 2 _ (by decide) rfl
      have q3 : wr.cell? ⟨b, off + k * 12 + 3, none⟩ = some (.int .i64 x.e.m.kind) := hc 3 _ (by decide) rfl
      have q4 : wr.cell? ⟨b, off + k * 12 + 4, none⟩ = some (.string x.e.m.key) := hc 4 _ (by decide) rfl
      have q5 : wr.cell? ⟨b, off + k * 12 + 5, none⟩ = some (.string x.e.m.en) := hc 5 _ (by decide) rfl
      have q6 : wr.cell? ⟨b, off + k * 12 + 6, none⟩ = some (.string x.e.m.val) := hc 6 _ (by decide) rfl
      have q7 : wr.cell? ⟨b, off + k * 12 + 7, none⟩ = some (.int .i64 x.e.m.exp) := hc 7 _ (by decide) rfl
      have q8 : wr.cell? ⟨b, off + k * 12 + 8, none⟩ = some (.int .i64 x.e.m.at_.1) := hc 8 _ (by decide) rfl
      have q9 : wr.cell? ⟨b, off + k * 12 + 9, none⟩ = some (.int .i64 x.e.m.at_.2.1) := hc 9 _ (by decide) rfl
      have q10 : wr.cell? ⟨b, off + k * 12 + 10, none⟩ = some (.int .i64 x.e.m.at_.2.2) := hc 10 _ (by decide) rfl
      have q11 : wr.cell? ⟨b, off + k * 12 + 11, none⟩ = some (.slice x.e.A x.e.n x.e.c) := hc 11 _ (by decide) rfl
      have o0 : wr.cell? ⟨w.heap.size, 0, none⟩ = some (.int .i64 o.kind) := BO.cell 0
      have o1 : wr.cell? ⟨w.heap.size, 1, none⟩ = some (.int .i64 o.to) := BO.cell 1
      have o2 : wr.cell? ⟨w.heap.size, 2, none⟩ = some (.int .i64 o.now) := BO.cell 2
      have o3 : wr.cell? ⟨w.heap.size, 3, none⟩ = some (.int .i64 o.e.m.tab) := BO.cell 3
      have o4 : wr.cell? ⟨w.heap.size, 4, none⟩ = some (.int .i64 o.e.m.kind) := BO.cell 4
      have o5 : wr.cell? ⟨w.heap.size, 5, none⟩ = some (.string o.e.m.key) := BO.cell 5
      have o6 : wr.cell? ⟨w.heap.size, 6, none⟩ = some (.string o.e.m.en) := BO.cell 6
      have o7 : wr.cell? ⟨w.heap.size, 7, none⟩ = some (.string o.e.m.val) := BO.cell 7
      have o8 : wr.cell? ⟨w.heap.size, 8, none⟩ = some (.int .i64 o.e.m.exp) := BO.cell 8
      have o9 : wr.cell? ⟨w.heap.size, 9, none⟩ = some (.int .i64 o.e.m.at_.1) := BO.cell 9
      have o10 : wr.cell? ⟨w.heap.size, 10, none⟩ = some (.int .i64 o.e.m.at_.2.1) := BO.cell 10
      have o11 : wr.cell? ⟨w.heap.size, 11, none⟩ = some (.int .i64 o.e.m.at_.2.2) := BO.cell 11
      have o12 : wr.cell? ⟨w.heap.size, 12, none⟩ = some (.slice o.e.A o.e.n o.e.c) := BO.cell 12
      have HNX := Lib.hid hnx
      have HANY := Lib.hid hany
      have F : Hid (∀ w2, Below wr.heap.size wr w2 → addB (L.map hp) o.to o.e.m = false → LAddE w base (some ⟨b, off, none⟩) o (L.map hp) (.returned (.tuple #[.slice (some ⟨b, off, none⟩) n c, .bool false])) w2) := Lib.hid (fun w2 b2 h0 => ⟨_, n, c, L, by rw [h0], hl0.below b2 (Nat.le_trans hbW hB.size), by unfold addH; rw [h0]; rfl, .inl rfl, hAc, hnc, bW.trans ((hB.trans (b2.mono hB.size)).mono bW.size)⟩)
      clear hc hx hnx hl0 hany
      by_cases hto : x.to = o.to
      · have d1 : (x.to == o.to) = true := by simp [hto]
        obtain ⟨cz, hcz⟩ : ∃ cz, cmpM x.e.m o.e.m = cz := ⟨_, rfl⟩
        have HR : Hid ((decide (x.to = o.to) && (cmpM x.e.m o.e.m == 0)) = (cz == 0)) := Lib.hid (by rw [decide_eq_true hto, hcz, Bool.true_and])
        rw [HR.out] at HNX HANY
        clear hto HR
        have k1 : ∀ d os, Calls Try.prog 11 #[.agg #[.int .i64 x.e.m.tab, .int .i64 x.e.m.kind, .string x.e.m.key, .string x.e.m.en, .string x.e.m.val, .int .i64 x.e.m.exp, .int .i64 x.e.m.at_.1, .int .i64 x.e.m.at_.2.1, .int .i64 x.e.m.at_.2.2, .slice x.e.A x.e.n x.e.c], .agg #[.int .i64 o.e.m.tab, .int .i64 o.e.m.kind, .string o.e.m.key, .string o.e.m.en, .string o.e.m.val, .int .i64 o.e.m.exp, .int .i64 o.e.m.at_.1, .int .i64 o.e.m.at_.2.1, .int .i64 o.e.m.at_.2.2, .slice o.e.A o.e.n o.e.c]] (grow (redrawn wr d) os) fun e w'' => e = .returned (.int .i64 cz) ∧ ∃ p : Regrown, w'' = grow (redrawn wr p.d) p.os := fun d os => Calls.regrown_of (by
          rw [← hcz]
          have bb := below_regrown wr d os
          exact ref07_Compare x.e.m o.e.m x.e.A o.e.A x.e.n x.e.c o.e.n o.e.c _ ((hrow.below bb).more bb.size) ((orow.below bb).more bb.size) hok.1)
        go_upto_region 4 with fail

        have r0 := cell_regrown q0
        have r2 := cell_regrown q2
        have r3 := cell_regrown q3
        have r4 := cell_regrown q4
        have r5 := cell_regrown q5
        have r6 := cell_regrown q6
        have r7 := cell_regrown q7
        have r8 := cell_regrown q8
        have r9 := cell_regrown q9
        have r10 := cell_regrown q10
        have r11 := cell_regrown q11
        have s1 := cell_regrown o1
        have s3 := cell_regrown o3
        have s4 := cell_regrown o4
        have s5 := cell_regrown o5
        have s6 := cell_regrown o6
        have s7 := cell_regrown o7
        have s8 := cell_regrown o8
        have s9 := cell_regrown o9
        have s10 := cell_regrown o10
        have s11 := cell_regrown o11
        have s12 := cell_regrown o12
        clear q0 q1 q2 q3 q4 q5 q6 q7 q8 q9 q10 q11 o0 o1 o2 o3 o4 o5 o6 o7 o8 o9 o10 o11 o12 hcz hrow orow hok
        refine wp_region_quiet_below (by kernel_rfl) (by kernel_rfl) ?_
        repeat (go_big_quiet_step (with_reducible exact k1 _ _))
        refine wpQuiet_nil ?_
        rintro w3 ⟨⟨d, os⟩, rfl⟩
        have bb := below_regrown wr d os
        generalize grow (redrawn wr d) os = w3 at *
        by_cases hz : cz = 0
        · have hz1 : (cz == 0) = true := by simp [hz]
          have F3 := Lib.hid (F.out w3 bb (HANY.out hz1))
          clear F HANY k1 r0 r2 r3 r4 r5 r6 r7 r8 r9 r10 r11 s1 s3 s4 s5 s6 s7 s8 s9 s10 s11 s12
          go_wp2_with fail
          go_returns
          exact F3.out
        · have hz1 : (cz == 0) = false := by simp [hz]
          have HNY : Hid (((L.take (k + 1)).any fun x => decide (x.to = o.to) && (cmpM x.e.m o.e.m == 0)) = false) := Lib.hid (HNX.out.trans hz1)
          clear F HANY k1 r0 r2 r3 r4 r5 r6 r7 r8 r9 r10 r11 s1 s3 s4 s5 s6 s7 s8 s9 s10 s11 s12
          go_wp2_with fail
          go_roundw
          case rel => exact ⟨k + 1, by go_num, by omega, HNY.out, BO.below bb BO.lt, hB.trans (bb.mono hB.size)⟩
          case measure => simp [intOf]; omega
      · have d1 : (x.to == o.to) = false := by simp [hto]
        have HNY : Hid (((L.take (k + 1)).any fun x => decide (x.to = o.to) && (cmpM x.e.m o.e.m == 0)) = false) := Lib.hid (by rw [HNX.out, decide_eq_false hto, Bool.false_and])
        clear hto F HANY hrow orow hok
        go_upto_region 4 with fail
        go_region
        clear q0 q1 q2 q3 q4 q5 q6 q7 q8 q9 q10 q11 o0 o1 o2 o3 o4 o5 o6 o7 o8 o9 o10 o11 o12
        go_wp2_with fail
        go_roundw
        case rel => exact ⟨k + 1, by go_num, by omega, HNY.out, BO.drew, below_drewN hB 1⟩
        case measure => simp [intOf]; omega
    · have hkn2 : k = n := by omega
      subst hkn2
      have hdup : ((L.map hp).any fun x => decide (x.to = o.to) && (cmpM x.m o.e.m == 0)) = false := by
        have := HD.out
        rw [List.take_of_length_le (by have := HN.out; omega)] at this
        rw [List.any_map]
        exact this
      have hl0 := HL.out.below hB hbW
      by_cases h100 : 100 ≤ k
      · have hge : decide ((k : Int) ≥ 100) = true := by simp; omega
        have F : Hid (LAddE w base A o (L.map hp) (.returned (.tuple #[.slice A k c, .bool false])) wr) := Lib.hid (by
          have h0 : addB (L.map hp) o.to o.e.m = false := by unfold addB; rw [decide_eq_false (by rw [List.length_map, HN.out]; omega)]; rfl
          exact ⟨_, k, c, L, by rw [h0], hl0, by unfold addH; rw [h0]; rfl, .inl rfl, hAc, hnc, bW.trans (hB.mono bW.size)⟩)
        clear hl0 hdup
        go_wp2_with fail
        go_returns
        exact F.out
      · have hge : decide ((k : Int) ≥ 100) = false := by simp; omega
        have h0 : addB (L.map hp) o.to o.e.m = true := by unfold addB; rw [hdup, decide_eq_true (by rw [List.length_map, HN.out]; omega)]; rfl
        obtain ⟨q, hq⟩ : ∃ q, min (max o.now 0) 1099511627776 = q := ⟨_, rfl⟩
        have hq1 : 0 ≤ q := by rw [← hq]; omega
        have hq2 : q ≤ 1099511627776 := by rw [← hq]; omega
        have hu : untilH o.now = q + 40 := by unfold untilH; rw [hq]
        obtain ⟨x0, hx0⟩ : ∃ x0 : HintS, x0 = ⟨o.to, q + 40, o.e⟩ := ⟨_, rfl⟩
        have HL0 : Hid (#[.int .i64 o.to, .int .i64 (q + 40), .int .i64 o.e.m.tab, .int .i64 o.e.m.kind, .string o.e.m.key, .string o.e.m.en, .string o.e.m.val, .int .i64 o.e.m.exp, .int .i64 o.e.m.at_.1, .int .i64 o.e.m.at_.2.1, .int .i64 o.e.m.at_.2.2, .slice o.e.A o.e.n o.e.c].toList = hintL x0) := Lib.hid (by rw [hx0]; rfl)
        have F : Hid (∀ (A7 : Option Addr) (c7 : Nat) (w7 : World), OwnH w7 wr.drew.heap.size (.slice A7 (L ++ [x0]).length c7) (L ++ [x0]) → Below wr.drew.heap.size wr.drew w7 → (A7 = none → c7 = 0) → (L ++ [x0]).length ≤ c7 →
            LAddE w base A o (L.map hp) (.returned (.tuple #[.slice A7 (L ++ [x0]).length c7, .bool true])) w7) := Lib.hid (fun A7 c7 w7 o7 b7 z7 l7 => by
          have bw7 : Below W.heap.size W w7 := (below_drewN hB 1).trans (b7.mono hB.size)
          refine ⟨A7, _, c7, L ++ [x0], by rw [h0], ⟨Reads.of_own o7, fun y hy => ?_, fun y hy => ?_, fun ad ha => (World.ownsRow.lt o7 ad.block (by rw [ha]; rfl)).2⟩, ?_, .inr (fun ad ha => ?_), z7, l7, bW.trans (bw7.mono bW.size)⟩
          · rcases List.mem_append.1 hy with hy | hy
            · exact (HL.out.el y hy).below (bw7.mono hbW)
            · rw [List.mem_singleton.1 hy, hx0]
              exact HOB.out.below (bw7.mono hbW)
          · rcases List.mem_append.1 hy with hy | hy
            · exact HL.out.ok y hy
            · rw [List.mem_singleton.1 hy, hx0]
              exact hoz
          · unfold addH
            rw [if_pos h0, List.map_append, hu, hx0]
            rfl
          · have := (World.ownsRow.lt o7 ad.block (by rw [ha]; rfl)).1
            have h9 : wr.drew.heap.size = wr.heap.size := rfl
            have := hB.size
            omega)
        have HR : Hid (Reads wr.drew wr.drew.heap.size 12 A k (L.flatMap hintL)) := Lib.hid hl0.rd
        go_upto_region 8 with fail

        have o0 : ∀ p : Kept (fun _ => True) wr.drew, p.v.cell? ⟨w.heap.size, 0, none⟩ = some (.int .i64 o.kind) := fun p => p.h.cell trivial (BO.drew.cell 0)
        have o1 : ∀ p : Kept (fun _ => True) wr.drew, p.v.cell? ⟨w.heap.size, 1, none⟩ = some (.int .i64 o.to) := fun p => p.h.cell trivial (BO.drew.cell 1)
        have o2 : ∀ p : Kept (fun _ => True) wr.drew, p.v.cell? ⟨w.heap.size, 2, none⟩ = some (.int .i64 o.now) := fun p => p.h.cell trivial (BO.drew.cell 2)
        have o3 : ∀ p : Kept (fun _ => True) wr.drew, p.v.cell? ⟨w.heap.size, 3, none⟩ = some (.int .i64 o.e.m.tab) := fun p => p.h.cell trivial (BO.drew.cell 3)
        have o4 : ∀ p : Kept (fun _ => True) wr.drew, p.v.cell? ⟨w.heap.size, 4, none⟩ = some (.int .i64 o.e.m.kind) := fun p => p.h.cell trivial (BO.drew.cell 4)
        have o5 : ∀ p : Kept (fun _ => True) wr.drew, p.v.cell? ⟨w.heap.size, 5, none⟩ = some (.string o.e.m.key) := fun p => p.h.cell trivial (BO.drew.cell 5)
        have o6 : ∀ p : Kept (fun _ => True) wr.drew, p.v.cell? ⟨w.heap.size, 6, none⟩ = some (.string o.e.m.en) := fun p => p.h.cell trivial (BO.drew.cell 6)
        have o7 : ∀ p : Kept (fun _ => True) wr.drew, p.v.cell? ⟨w.heap.size, 7, none⟩ = some (.string o.e.m.val) := fun p => p.h.cell trivial (BO.drew.cell 7)
        have o8 : ∀ p : Kept (fun _ => True) wr.drew, p.v.cell? ⟨w.heap.size, 8, none⟩ = some (.int .i64 o.e.m.exp) := fun p => p.h.cell trivial (BO.drew.cell 8)
        have o9 : ∀ p : Kept (fun _ => True) wr.drew, p.v.cell? ⟨w.heap.size, 9, none⟩ = some (.int .i64 o.e.m.at_.1) := fun p => p.h.cell trivial (BO.drew.cell 9)
        have o10 : ∀ p : Kept (fun _ => True) wr.drew, p.v.cell? ⟨w.heap.size, 10, none⟩ = some (.int .i64 o.e.m.at_.2.1) := fun p => p.h.cell trivial (BO.drew.cell 10)
        have o11 : ∀ p : Kept (fun _ => True) wr.drew, p.v.cell? ⟨w.heap.size, 11, none⟩ = some (.int .i64 o.e.m.at_.2.2) := fun p => p.h.cell trivial (BO.drew.cell 11)
        have o12 : ∀ p : Kept (fun _ => True) wr.drew, p.v.cell? ⟨w.heap.size, 12, none⟩ = some (.slice o.e.A o.e.n o.e.c) := fun p => p.h.cell trivial (BO.drew.cell 12)
        refine wp_region_mixTk (M := []) (fun _ => True) 18 [0, 1, 2, 3, 4, 5, 6, 7, 8, 9, 10, 11, 12, 13, 14, 15, 16, 17] (by kernel_rfl) (by kernel_rfl) ?_
        iterate 16 (refine mix_calmDk rfl rfl ?_; go_big_quiet_step (fail); refine wpQuiet_nil ?_)
        clear o0 o1 o2 o3 o4 o5 o6 o7 o8 o9 o10 o11 o12
        refine mix_loudDk rfl (by kernel_rfl) rfl ?_
        intro K1 hK1
        have HK := Lib.hid hK1
        clear hK1
        go_wp2_with fail
        refine HK.out _ _ ((Stand.refl _ _).alloc _) ?_
        clear HK
        refine mix_loudDk rfl (by kernel_rfl) rfl ?_
        intro K1 hK1
        have HK := Lib.hid hK1
        clear hK1
        go_wp2_with (at_builtin; go_must (refine append_hint_cut wr.drew x0 _ HL0.out _ rfl _ _ rfl A k L rfl HR.out rfl (by omega) ?_); intro v7 w7 O7 b7; obtain ⟨A7, c7, hv7, l7, z7, _⟩ := own_form O7; subst hv7; have hF := F.out A7 c7 w7 O7 (((Below.refl _ _).alloc (Nat.le_refl _) _).trans (b7.mono (by simp))) z7 l7; clear O7 l7; generalize (L ++ [x0]).length = N7 at hF ⊢; have HF := Lib.hid hF; have HST := Lib.hid (Stand.of_below (S := fun _ => True) b7); clear hF)
        refine HK.out _ _ HST.out ?_
        clear HK
        refine mix_endDk ?_
        go_wp2_with fail
        go_returns
        exact HF.out
end Go.Proofs.Ytfkooohnaodjmaa
