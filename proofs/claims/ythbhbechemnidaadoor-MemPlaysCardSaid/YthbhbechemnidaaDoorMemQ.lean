/- Rows of mutations whose stamps lie elsewhere; contract of the law's put. Rows of mutations beside a tree that turns, and beside each other; what lies ahead of the law MemPlays. -/
import Derived.Test.YthbhbechemnidaaDoorMemF
import Derived.Test.YthbhbechemnidaaDoorMemO
import Derived.Deep.CutRange
import Derived.Test.YthbhbechemnidaaDoorMemL
import Derived.Test.YthbhbechemnidaaDoorOpenMut
namespace Go.Proofs.YthbhbechemnidaaDoor
open Go.RowKit Go.Sort

/-- A row of mutations that the call owns; their stamps lie below hi. -/
structure OwnL (w : World) (hi base : Nat) (v : Value) (M : List Mut) : Prop where
  row : ∃ L : List MutS, L.map (·.m) = M ∧ w.ownsRow base 35 10 v L.length (L.flatMap mutL) ∧ ∀ e ∈ L, Reads w hi 3 e.A e.n (e.m.ov.flatMap sc) ∧ e.n ≤ 1000000000 ∧ (e.A = none → e.c = 0)
theorem OwnL.nil_ (w : World) (hi base : Nat) : OwnL w hi base (.slice none 0 0) [] := ⟨[], rfl, World.ownsRow_nil _ _ _ _, fun _ h => by cases h⟩
theorem OwnL.below {w w' : World} {hi base : Nat} {v : Value} {M : List Mut} (h : OwnL w hi base v M) (b : Below w.heap.size w w') (hh : hi ≤ w.heap.size) : OwnL w' hi base v M := by
  obtain ⟨L, rfl, h1, h2⟩ := h.row
  exact ⟨L, rfl, own_below h1 b, fun e he => ⟨(h2 e he).1.below (b.mono hh), (h2 e he).2⟩⟩
theorem OwnL.lt {w : World} {hi base : Nat} {v : Value} {M : List Mut} (h : OwnL w hi base v M) : ∀ k, v.ownBlock = some k → base ≤ k ∧ k < w.heap.size := by
  obtain ⟨L, rfl, h1, _⟩ := h.row
  exact World.ownsRow.lt h1
theorem OwnL.base_le {w : World} {hi base base' : Nat} {v : Value} {M : List Mut} (h : OwnL w hi base v M) (hb : base' ≤ base) : OwnL w hi base' v M := by
  obtain ⟨L, rfl, h1, h2⟩ := h.row
  exact ⟨L, rfl, own_base h1 hb, h2⟩
/-- Mutations that can be read, with their stamps below hi. -/
def RdL (w : World) (hi : Nat) (A : Option Addr) (n : Nat) (L : List MutS) : Prop := Reads w w.heap.size 10 A n (L.flatMap mutL) ∧ ∀ e ∈ L, Reads w hi 3 e.A e.n (e.m.ov.flatMap sc) ∧ e.n ≤ 1000000000 ∧ (e.A = none → e.c = 0)
theorem RdL.below {w w' : World} {hi n : Nat} {A : Option Addr} {L : List MutS} (h : RdL w hi A n L) (b : Below w.heap.size w w') (hh : hi ≤ w.heap.size) : RdL w' hi A n L :=
  ⟨(h.1.below b).more b.size, fun e he => ⟨(h.2 e he).1.below (b.mono hh), (h.2 e he).2⟩⟩
theorem RdL.rdm {w : World} {hi n : Nat} {A : Option Addr} {L : List MutS} (h : RdL w hi A n L) (hh : hi ≤ w.heap.size) : RdM w A n (L.map (·.m)) :=
  ⟨L, rfl, h.1, fun e he => ⟨(h.2 e he).1.more hh, fun _ _ => by simp⟩, fun e he => (h.2 e he).2⟩
theorem OwnL.rd {w : World} {hi base : Nat} {v : Value} {M : List Mut} (h : OwnL w hi base v M) : ∃ A c L, v = .slice A M.length c ∧ M.length ≤ c ∧ (A = none → c = 0) ∧ L.map (·.m) = M ∧ RdL w hi A M.length L := by
  obtain ⟨L, rfl, h1, h2⟩ := h.row
  obtain ⟨A, c, rfl, hc, hn, -⟩ := own_form h1
  rw [List.length_map]
  exact ⟨A, c, L, rfl, hc, hn, rfl, Reads.of_own h1, h2⟩
/-- 'append(out, m)'. -/
theorem append_mut_l {ops : Array Oper} {rest : List Oper} {o : Oper} {a : Act} {Q : Exit → Act → World → Prop} (w : World) (x : Mut) (A : Option Addr) (n c : Nat) (u : Array Value) (hu : u = mutC x (.slice A n c)) (hgd : o.guard = none) (s y : Operand)
    (ho : o.op = .call { callee := .builtin .append, args := #[s, y], argTypes := #[22, 22] }) (hi base : Nat) (v : Value) (M : List Mut) (hs : a.eval s = v) (hown : OwnL w hi base v M)
    (hr : Reads w hi 3 A n (x.ov.flatMap sc)) (hz : n ≤ 1000000000 ∧ (A = none → c = 0)) (hhi : hi ≤ base)
    (hx : a.eval y = .slice (some ⟨w.heap.size, 0, none⟩) 1 1) (hlen : M.length ≤ 1000000000) (hbase : base ≤ w.heap.size)
    (h : ∀ v' w', OwnL w' hi base v' (M ++ [x]) → Below base w w' → wpList Tryd.prog ops Q rest (a.put o.dst v') w') : wpList Tryd.prog ops Q (o :: rest) a (w.alloc (.cells u 35)) := by
  obtain ⟨L, hL, h1, h2⟩ := hown.row
  have hll : L.length = M.length := by rw [← hL, List.length_map]
  refine append_elem_b w u (mutL ⟨x, A, n, c⟩) (by rw [hu]; rfl) 35 hgd s y 22 ho base 35 (.agg #[.int .i64 0, .int .i64 0, .string ⟨#[]⟩, .string ⟨#[]⟩, .string ⟨#[]⟩, .int .i64 0, .int .i64 0, .int .i64 0, .int .i64 0, .slice none 0 0]) 10 120 Tryd.underlying22 info_mut rfl (by decide) v L.length (L.flatMap mutL) hs h1 rfl (mutL_one _) hx (by unfold maxLen; omega) (by omega) hbase ?_
  intro v' w' g1 g2 _
  have hB : Below base w w' := Below.grown ((Below.refl base w).alloc hbase _) g2 (by rw [World.size_alloc]; omega) (fun q hq => (World.ownsRow.lt h1 q hq).1)
  refine h v' w' ⟨L ++ [⟨x, A, n, c⟩], by simp [hL], ?_, ?_⟩ hB
  · rw [flat_snoc, List.length_append]
    exact g1
  · intro e he
    rcases List.mem_append.1 he with he | he
    · exact ⟨(h2 e he).1.below (hB.mono hhi), (h2 e he).2⟩
    · rw [List.mem_singleton.1 he]
      exact ⟨hr.below (hB.mono hhi), hz⟩
/-- An element of such a row. -/
theorem RdL.at_ {w : World} {hi n : Nat} {A : Option Addr} {L : List MutS} (h : RdL w hi A n L) {k : Nat} (hk : k < L.length) : ∃ x b off, L[k] = x ∧ A = some ⟨b, off, none⟩ ∧ b < w.heap.size ∧ (∀ i u, i < 10 → (mutL x)[i]? = some u → w.cell? ⟨b, off + k * 10 + i, none⟩ = some u) ∧ Reads w hi 3 x.A x.n (x.m.ov.flatMap sc) ∧ x.n ≤ 1000000000 ∧ (x.A = none → x.c = 0) := by
  obtain ⟨b, off, hA, hb, hc⟩ := mut_at h.1 hk
  exact ⟨L[k], b, off, rfl, hA, hb, hc, (h.2 _ (List.getElem_mem hk)).1, (h.2 _ (List.getElem_mem hk)).2.1, (h.2 _ (List.getElem_mem hk)).2.2⟩

/-- What the law's put hands back. -/
def LPut (w : World) (hi : Nat) (R : List Mut × Bool) (e : Ending) (w' : World) : Prop := ∃ v, e = .returned (.tuple #[v, .bool R.2]) ∧ OwnL w' hi w.heap.size v R.1 ∧ Below w.heap.size w w'

set_option maxRecDepth 100000 in
set_option maxHeartbeats 8000000 in
theorem law13_put (x0 : Mut) (A0 : Option Addr) (n0 cz0 : Nat) (A : Option Addr) (n c : Nat) (L : List MutS) (hi : Nat) (w : World) (hr : RdL w hi A n L) (hr0 : Reads w hi 3 A0 n0 (x0.ov.flatMap sc)) (hz0 : n0 ≤ 1000000000 ∧ (A0 = none → cz0 = 0)) (hhi : hi ≤ w.heap.size) (hn : n ≤ 1000000) :
    Calls Tryd.prog 14 #[.slice A n c, .agg (mutC x0 (.slice A0 n0 cz0))] w (LPut w hi (putE x0 ((L.map (·.m)).foldl (putS x0) (false, false, [])))) := by
  have HLL := Lib.hid (muts_n hr.1)
  obtain ⟨ST, hST⟩ : ∃ ST, (L.map (·.m)).foldl (putS x0) (false, false, []) = ST := ⟨_, rfl⟩
  rw [hST]
  have HS0 : Hid (((L.map (·.m)).drop 0).foldl (putS x0) (false, false, []) = ST) := Lib.hid (by rw [List.drop_zero]; exact hST)
  clear hST
  have BK := Blk.new w 35 (mutC x0 (.slice A0 n0 cz0))
  have hB : Below w.heap.size w (w.alloc (.cells (mutC x0 (.slice A0 n0 cz0)) 35)) := (Below.refl _ _).alloc (Nat.le_refl _) _
  have HR := Lib.hid hr
  have HR0 := Lib.hid hr0
  have HZ0 := Lib.hid hz0
  have hz1 := hz0.1
  clear hr hr0 hz0
  go_enter Tryd.func14, Tryd.ntmps14
  go_wp2_with fail
  generalize w.alloc (.cells (mutC x0 (.slice A0 n0 cz0)) 35) = W at *
  have O0 := OwnL.nil_ W hi (w.heap.size + 1)
  go_loopw [6, 7, 8, 9, 10] (fun v6 v7 v8 v9 _ wr => ∃ (k : Nat) (i q : Bool) (M : List Mut), v7 = .bool i ∧ v8 = .bool q ∧ v9 = .int .i64 k ∧ k ≤ n ∧ M.length ≤ 2 * k ∧ OwnL wr hi (w.heap.size + 1) v6 M ∧ ((L.map (·.m)).drop k).foldl (putS x0) (i, q, M) = ST ∧ Blk wr w.heap.size 35 (mutC x0 (.slice A0 n0 cz0)) ∧ Below w.heap.size w wr) (fun _ _ _ v9 _ _ => n - (RowKit.intOf v9).toNat)
  case atStart => exact ⟨0, false, false, [], rfl, rfl, rfl, Nat.zero_le _, Nat.le_refl _, O0, HS0.out, BK, hB⟩
  case round =>
    clear O0 HS0 BK hB
    obtain ⟨k, i, q, M, rfl, rfl, rfl, hk, hMl, hO, hS, BK, hB⟩ := hrel
    have HO := Lib.hid hO
    have HS := Lib.hid hS
    clear hO hS
    by_cases hkn : k < n
    · have hkT : k < L.length := by have := HLL.out; omega
      obtain ⟨x, b, off, hx, hA, hb, hc0, hrx0, hz, hz2⟩ := RdL.at_ HR.out hkT
      subst hA
      have hc : ∀ i u, i < 10 → (mutL x)[i]? = some u → wr.cell? ⟨b, off + k * 10 + i, none⟩ = some u := fun i u hi h => (hB.cell (p := ⟨b, off + k * 10 + i, none⟩) hb).trans (hc0 i u hi h)
      have hrx := hrx0.below (hB.mono hhi)
      clear hc0 hrx0
      have HBB := Lib.hid hb
      clear hb
      have HX : Hid ((L.map (·.m))[k]'(by rw [List.length_map]; exact hkT) = x.m) := Lib.hid (by rw [List.getElem_map, hx])
      have HZ2 : Hid (x.n ≤ 1000000000 ∧ (x.A = none → x.c = 0)) := Lib.hid ⟨hz, hz2⟩
      have HRX := Lib.hid hrx
      clear hrx hx hz2
      have c0 : wr.cell? ⟨b, off + k * 10, none⟩ = some (.int .i64 x.m.tab) := hc 0 _ (by decide) rfl
      have c1 : wr.cell? ⟨b, off + k * 10 + 1, none⟩ = some (.int .i64 x.m.kind) := hc 1 _ (by decide) rfl
      have c2 : wr.cell? ⟨b, off + k * 10 + 2, none⟩ = some (.string x.m.key) := hc 2 _ (by decide) rfl
      have c3 : wr.cell? ⟨b, off + k * 10 + 3, none⟩ = some (.string x.m.en) := hc 3 _ (by decide) rfl
      have c4 : wr.cell? ⟨b, off + k * 10 + 4, none⟩ = some (.string x.m.val) := hc 4 _ (by decide) rfl
      have c5 : wr.cell? ⟨b, off + k * 10 + 5, none⟩ = some (.int .i64 x.m.exp) := hc 5 _ (by decide) rfl
      have c6 : wr.cell? ⟨b, off + k * 10 + 6, none⟩ = some (.int .i64 x.m.at_.1) := hc 6 _ (by decide) rfl
      have c7 : wr.cell? ⟨b, off + k * 10 + 7, none⟩ = some (.int .i64 x.m.at_.2.1) := hc 7 _ (by decide) rfl
      have c8 : wr.cell? ⟨b, off + k * 10 + 8, none⟩ = some (.int .i64 x.m.at_.2.2) := hc 8 _ (by decide) rfl
      have c9 : wr.cell? ⟨b, off + k * 10 + 9, none⟩ = some (.slice x.A x.n x.c) := hc 9 _ (by decide) rfl
      have t0 : wr.cell? ⟨w.heap.size, 0, none⟩ = some (.int .i64 x0.tab) := BK.cell 0
      have t1 : wr.cell? ⟨w.heap.size, 1, none⟩ = some (.int .i64 x0.kind) := BK.cell 1
      have t2 : wr.cell? ⟨w.heap.size, 2, none⟩ = some (.string x0.key) := BK.cell 2
      have t3 : wr.cell? ⟨w.heap.size, 3, none⟩ = some (.string x0.en) := BK.cell 3
      have t4 : wr.cell? ⟨w.heap.size, 4, none⟩ = some (.string x0.val) := BK.cell 4
      have t5 : wr.cell? ⟨w.heap.size, 5, none⟩ = some (.int .i64 x0.exp) := BK.cell 5
      have t6 : wr.cell? ⟨w.heap.size, 6, none⟩ = some (.int .i64 x0.at_.1) := BK.cell 6
      have t7 : wr.cell? ⟨w.heap.size, 7, none⟩ = some (.int .i64 x0.at_.2.1) := BK.cell 7
      have t8 : wr.cell? ⟨w.heap.size, 8, none⟩ = some (.int .i64 x0.at_.2.2) := BK.cell 8
      have t9 : wr.cell? ⟨w.heap.size, 9, none⟩ = some (.slice A0 n0 cz0) := BK.cell 9
      obtain ⟨cz, hcz⟩ : ∃ cz, cmpMem x0 x.m = cz := ⟨_, rfl⟩
      have CC := fun d os => Calls.regrown_of (d := d) (os := os) (w := wr) (law13_compare x0 x.m A0 x.A n0 cz0 x.n x.c (grow (redrawn wr d) os) (((HR0.out.below (hB.mono hhi)).below ((below_regrown wr d os).mono (Nat.le_trans hhi hB.size))).more (Nat.le_trans (Nat.le_trans hhi hB.size) (below_regrown wr d os).size)) ((HRX.out.below ((below_regrown wr d os).mono (Nat.le_trans hhi hB.size))).more (Nat.le_trans (Nat.le_trans hhi hB.size) (below_regrown wr d os).size)) hz1)
      rw [hcz] at CC
      unfold mutC at CC
      have HCC := Lib.hid CC
      have HCZ := Lib.hid hcz
      clear CC hcz hc
      go_upto_region 6 with fail
      have s0 := cell_regrown c0
      have z0 := cell_regrown t0
      have s1 := cell_regrown c1
      have z1 := cell_regrown t1
      have s2 := cell_regrown c2
      have z2 := cell_regrown t2
      have s3 := cell_regrown c3
      have z3 := cell_regrown t3
      have s4 := cell_regrown c4
      have z4 := cell_regrown t4
      have s5 := cell_regrown c5
      have z5 := cell_regrown t5
      have s6 := cell_regrown c6
      have z6 := cell_regrown t6
      have s7 := cell_regrown c7
      have z7 := cell_regrown t7
      have s8 := cell_regrown c8
      have z8 := cell_regrown t8
      have s9 := cell_regrown c9
      have z9 := cell_regrown t9
      clear c0 t0 c1 t1 c2 t2 c3 t3 c4 t4 c5 t5 c6 t6 c7 t7 c8 t8 c9 t9
      refine wp_region_quiet_below (by kernel_rfl) (by kernel_rfl) ?_
      repeat (go_big_quiet_step (exact HCC.out _ _))
      refine wpQuiet_nil ?_
      rintro w1 ⟨⟨dq, osq⟩, rfl⟩
      have b9 := below_regrown wr dq osq
      replace s0 := s0 dq osq
      replace z0 := z0 dq osq
      replace s1 := s1 dq osq
      replace z1 := z1 dq osq
      replace s2 := s2 dq osq
      replace z2 := z2 dq osq
      replace s3 := s3 dq osq
      replace z3 := z3 dq osq
      replace s4 := s4 dq osq
      replace z4 := z4 dq osq
      replace s5 := s5 dq osq
      replace z5 := z5 dq osq
      replace s6 := s6 dq osq
      replace z6 := z6 dq osq
      replace s7 := s7 dq osq
      replace z7 := z7 dq osq
      replace s8 := s8 dq osq
      replace z8 := z8 dq osq
      replace s9 := s9 dq osq
      replace z9 := z9 dq osq
      replace BK := BK.below b9 BK.lt
      replace HO := Lib.hid (HO.out.below b9 (Nat.le_trans hhi hB.size))
      replace HRX := Lib.hid (HRX.out.below (b9.mono (Nat.le_trans hhi hB.size)))
      replace hB := hB.trans (b9.mono hB.size)
      clear b9 HCC
      generalize grow (redrawn wr dq) osq = w1 at *
      have hsz : w.heap.size + 1 ≤ w1.heap.size := BK.lt
      go_upto_region 7 with fail
      obtain ⟨q8, hq8⟩ : ∃ q8, (q || (cz == 0)) = q8 := ⟨_, rfl⟩
      have HQ8 := Lib.hid hq8
      clear hq8
      go_cut [8] from 11 to 48 (fun s8 wx => s8 = .bool q8 ∧ wx = w1)
      case first =>
        have hq8 := HQ8.out
        cases q
        all_goals
          subst hq8
          go_wp2_with fail
          go_meet
          case rel => exact ⟨by first | rfl | (simp; done), rfl⟩
      case rest =>
      obtain ⟨rfl, rfl⟩ := hcut
      go_upto_region 8 with fail
      obtain ⟨q37, hq37⟩ : ∃ q37, (!i && decide (cz < 0) && !q8) = q37 := ⟨_, rfl⟩
      have HQ37 := Lib.hid hq37
      clear hq37
      go_cut [37] from 11 to 48 (fun s37 wx => s37 = .bool q37 ∧ wx = wc)
      case first =>
        have hq37 := HQ37.out
        cases i
        · by_cases hlt : cz < 0
          · have hd : decide (cz < 0) = true := decide_eq_true hlt
            rw [hd] at hq37
            subst hq37
            go_wp2_with fail
            go_meet
            case rel => exact ⟨by first | rfl | (simp; done), rfl⟩
          · have hd : decide (cz < 0) = false := decide_eq_false hlt
            rw [hd] at hq37
            subst hq37
            go_wp2_with fail
            go_meet
            case rel => exact ⟨by first | rfl | (simp; done), rfl⟩
        · subst hq37
          go_wp2_with fail
          go_meet
          case rel => exact ⟨by first | rfl | (simp; done), rfl⟩
      case rest =>
      obtain ⟨rfl, rfl⟩ := hcut
      obtain ⟨W5, hW5⟩ : ∃ W5, W5 = wc := ⟨_, rfl⟩
      subst hW5
      go_upto_if 37 with fail
      have hMl9 : M.length ≤ 1000000000 := by omega
      obtain ⟨AM, cM, LM, rfl, -, -, -, -⟩ := HO.out.rd
      go_cut [6, 7] from 11 to 48 (fun s6 s7 wx => OwnL wx hi (w.heap.size + 1) s6 (if q37 = true then M ++ [x0] else M) ∧ s7 = .bool (if q37 = true then true else i) ∧ Below (w.heap.size + 1) W5 wx)
      case first =>
        cases q37
        · go_wp2_with fail
          go_meet
          case rel => exact ⟨HO.out, rfl, Below.refl _ _⟩
        · go_wp2_with (at_builtin; go_must (refine append_mut_l W5 x0 A0 n0 cz0 _ (by unfold mutC; simp) rfl _ _ rfl hi (w.heap.size + 1) _ M rfl HO.out (HR0.out.below (hB.mono hhi)) HZ0.out (Nat.le_succ_of_le hhi) rfl hMl9 hsz ?_); intro v7 w7 O7 b7)
          go_meet
          case rel => exact ⟨O7, rfl, b7⟩
      case rest =>
      obtain ⟨O6, rfl, b6⟩ := hcut
      obtain ⟨M6, hM6⟩ : ∃ M6, (if q37 = true then M ++ [x0] else M) = M6 := ⟨_, rfl⟩
      obtain ⟨i6, hi6⟩ : ∃ i6, (if q37 = true then true else i) = i6 := ⟨_, rfl⟩
      have hlM6 : M6.length ≤ 2 * k + 1 := by
        rw [← hM6]
        split
        · rw [List.length_append]; show M.length + 1 ≤ _; omega
        · omega
      have HST : Hid (putS x0 (i, q, M) x.m = (i6, q8, M6 ++ [x.m])) := Lib.hid (by
        rw [← hM6, ← hi6]
        have e8 : (q || decide (cmpMem x0 x.m = 0)) = q8 := by rw [HCZ.out]; exact HQ8.out
        unfold putS
        rw [HCZ.out] at e8 ⊢
        rw [e8, HQ37.out]
        cases q37 <;> rfl)
      rw [hM6] at O6
      rw [hi6]
      obtain ⟨A6, c6, L6, rfl, -, -, -, -⟩ := O6.rd
      have hMl6 : M6.length ≤ 1000000000 := by omega
      have hsz6 : w.heap.size + 1 ≤ wc.heap.size := Nat.le_trans hsz b6.size
      have HO6 := Lib.hid O6
      have HR6 := Lib.hid (HRX.out.below (b6.mono (Nat.le_succ_of_le hhi)))
      have hBB := HBB.out
      have y0 := (b6.cell (p := ⟨b, off + k * 10, none⟩) (Nat.lt_succ_of_lt hBB)).trans s0
      have y1 := (b6.cell (p := ⟨b, off + k * 10 + 1, none⟩) (Nat.lt_succ_of_lt hBB)).trans s1
      have y2 := (b6.cell (p := ⟨b, off + k * 10 + 2, none⟩) (Nat.lt_succ_of_lt hBB)).trans s2
      have y3 := (b6.cell (p := ⟨b, off + k * 10 + 3, none⟩) (Nat.lt_succ_of_lt hBB)).trans s3
      have y4 := (b6.cell (p := ⟨b, off + k * 10 + 4, none⟩) (Nat.lt_succ_of_lt hBB)).trans s4
      have y5 := (b6.cell (p := ⟨b, off + k * 10 + 5, none⟩) (Nat.lt_succ_of_lt hBB)).trans s5
      have y6 := (b6.cell (p := ⟨b, off + k * 10 + 6, none⟩) (Nat.lt_succ_of_lt hBB)).trans s6
      have y7 := (b6.cell (p := ⟨b, off + k * 10 + 7, none⟩) (Nat.lt_succ_of_lt hBB)).trans s7
      have y8 := (b6.cell (p := ⟨b, off + k * 10 + 8, none⟩) (Nat.lt_succ_of_lt hBB)).trans s8
      have y9 := (b6.cell (p := ⟨b, off + k * 10 + 9, none⟩) (Nat.lt_succ_of_lt hBB)).trans s9
      have BK6 := BK.below b6 (Nat.lt_succ_self _)
      have hB6 := hB.trans (b6.mono (Nat.le_succ _))
      clear hM6 hi6 O6 s0 s1 s2 s3 s4 s5 s6 s7 s8 s9 z0 z1 z2 z3 z4 z5 z6 z7 z8 z9 BK HO HRX HQ8 HQ37
      go_wp2_with (at_builtin; go_must (refine append_mut_l wc x.m x.A x.n x.c _ (by unfold mutC; simp) rfl _ _ rfl hi (w.heap.size + 1) _ M6 rfl HO6.out HR6.out HZ2.out (Nat.le_succ_of_le hhi) rfl hMl6 hsz6 ?_); intro v7 w7 O7 b7)
      go_roundw
      case rel => exact ⟨k + 1, i6, q8, M6 ++ [x.m], rfl, rfl, by go_num, hkn, by rw [List.length_append]; show M6.length + 1 ≤ _; omega, O7, (by
          have h9 := HS.out
          have hk9 : k < (L.map (·.m)).length := by rw [List.length_map]; exact hkT
          rw [List.drop_eq_getElem_cons hk9, List.foldl_cons, HX.out, HST.out] at h9
          exact h9), BK6.below b7 (Nat.lt_succ_self _), hB6.trans (b7.mono (Nat.le_succ _))⟩
      case measure => simp [RowKit.intOf]; omega
    · have hkn : k = n := by omega
      subst hkn
      have HS2 := HS.out
      rw [List.drop_eq_nil_of_le (by rw [List.length_map, HLL.out]; exact Nat.le_refl _)] at HS2
      rw [List.foldl_nil] at HS2
      subst HS2
      obtain ⟨AM, cM, LM, rfl, -, -, -, -⟩ := HO.out.rd
      have hMl9 : M.length ≤ 1000000000 := by omega
      have hsz : w.heap.size + 1 ≤ wr.heap.size := BK.lt
      have t0 : wr.cell? ⟨w.heap.size, 0, none⟩ = some (.int .i64 x0.tab) := BK.cell 0
      have t1 : wr.cell? ⟨w.heap.size, 1, none⟩ = some (.int .i64 x0.kind) := BK.cell 1
      have t2 : wr.cell? ⟨w.heap.size, 2, none⟩ = some (.string x0.key) := BK.cell 2
      have t3 : wr.cell? ⟨w.heap.size, 3, none⟩ = some (.string x0.en) := BK.cell 3
      have t4 : wr.cell? ⟨w.heap.size, 4, none⟩ = some (.string x0.val) := BK.cell 4
      have t5 : wr.cell? ⟨w.heap.size, 5, none⟩ = some (.int .i64 x0.exp) := BK.cell 5
      have t6 : wr.cell? ⟨w.heap.size, 6, none⟩ = some (.int .i64 x0.at_.1) := BK.cell 6
      have t7 : wr.cell? ⟨w.heap.size, 7, none⟩ = some (.int .i64 x0.at_.2.1) := BK.cell 7
      have t8 : wr.cell? ⟨w.heap.size, 8, none⟩ = some (.int .i64 x0.at_.2.2) := BK.cell 8
      have t9 : wr.cell? ⟨w.heap.size, 9, none⟩ = some (.slice A0 n0 cz0) := BK.cell 9
      cases i <;> cases q
      all_goals
        go_wp2_with (at_builtin; go_must (refine append_mut_l wr x0 A0 n0 cz0 _ (by unfold mutC; simp) rfl _ _ rfl hi (w.heap.size + 1) _ M rfl HO.out (HR0.out.below (hB.mono hhi)) HZ0.out (Nat.le_succ_of_le hhi) rfl hMl9 hsz ?_); intro v7 w7 O7 b7)
        go_returns
      all_goals
        first
        | exact ⟨_, rfl, O7.base_le (Nat.le_succ _), hB.trans (b7.mono (Nat.le_succ _))⟩
        | exact ⟨_, rfl, HO.out.base_le (Nat.le_succ _), hB⟩
end Go.Proofs.YthbhbechemnidaaDoor

namespace Go.Proofs.YthbhbechemnidaaDoor
open Go.RowKit Go.Sort

theorem OwnL.turned {G : List Nat} {w w' : World} {hi base : Nat} {v : Value} {M : List Mut} (h : OwnL w hi base v M) (T : Turned G w w') (hG : ∀ q ∈ G, hi ≤ q) (hhi : hi ≤ w.heap.size) (hne : ∀ q ∈ G, v.ownBlock ≠ some q) : OwnL w' hi base v M := by
  obtain ⟨L, rfl, h1, h2⟩ := h.row
  have B := T.under hG hhi
  refine ⟨L, rfl, ⟨h1.1, ?_⟩, fun e he => ⟨(h2 e he).1.below B, (h2 e he).2⟩⟩
  rcases h1.2 with h9 | ⟨g, cap, cur, hv, hg, hh, r⟩
  · exact .inl h9
  · exact .inr ⟨g, cap, cur, hv, hg, (T.block g (Array.getElem?_eq_some_iff.1 hh).1 (fun hq => hne g hq (by rw [hv]; rfl))).trans hh, r⟩
theorem OwnL.ne {w : World} {hi base : Nat} {v : Value} {M : List Mut} (h : OwnL w hi base v M) {q : Nat} {T : TypeId} {cs : Array Value} (hb : Blk w q T cs) (hT : T ≠ 35) : v.ownBlock ≠ some q := by
  obtain ⟨L, rfl, h1, h2⟩ := h.row
  rcases h1.2 with ⟨hv, _⟩ | ⟨g, cap, cur, hv, hg, hh, r⟩
  · rw [hv]; intro e; cases e
  · rw [hv]
    intro e
    have e : g = q := by simpa [Value.ownBlock] using e
    subst e
    have hb' : w.heap[g]? = some (.cells cs T) := hb
    rw [hb'] at hh
    injection hh with hh
    injection hh with _ hh _
    exact hT hh
/-- Two rows lie in two blocks. -/
def Apt (v v' : Value) : Prop := ∀ q, v.ownBlock = some q → v'.ownBlock ≠ some q
theorem Apt.symm {v v' : Value} (h : Apt v v') : Apt v' v := fun q h1 h2 => h q h2 h1
theorem Apt.kept {v v' : Value} (h : Apt v v') : v.ownBlock = none ∨ v.ownBlock ≠ v'.ownBlock := by
  cases hv : v.ownBlock with
  | none => exact .inl rfl
  | some q => exact .inr fun e => h q hv e.symm
theorem Apt.lies {w : World} {v v' u : Value} (h : Apt v u) (hl : LiesIn w v v') (hu : ∀ q, u.ownBlock = some q → q < w.heap.size) : Apt v' u := fun q h1 h2 => by
  rcases hl with e | ⟨g, e, hg⟩
  · exact h q (e.symm.trans h1) h2
  · rw [e] at h1
    injection h1 with h1
    have := hu q h2
    omega
theorem OwnL.grown {w w' : World} {hi base : Nat} {v u : Value} {M : List Mut} (h : OwnL w hi base v M) (hg : w.grownBy w' u.ownBlock) (ha : Apt v u) (hb : hi ≤ w.heap.size) (hu : ∀ q, u.ownBlock = some q → hi ≤ q) : OwnL w' hi base v M := by
  obtain ⟨L, rfl, h1, h2⟩ := h.row
  exact ⟨L, rfl, World.ownsRow.kept h1 hg ha.kept, fun e he => ⟨(h2 e he).1.below (Below.grown (Below.refl hi w) hg hb hu), (h2 e he).2⟩⟩
/-- 'append(out, m)', with what grew. -/
theorem append_mut_l2 {ops : Array Oper} {rest : List Oper} {o : Oper} {a : Act} {Q : Exit → Act → World → Prop} (w : World) (x : Mut) (A : Option Addr) (n c : Nat) (u : Array Value) (hu : u = mutC x (.slice A n c)) (hgd : o.guard = none) (s y : Operand)
    (ho : o.op = .call { callee := .builtin .append, args := #[s, y], argTypes := #[22, 22] }) (hi base : Nat) (v : Value) (M : List Mut) (hs : a.eval s = v) (hown : OwnL w hi base v M)
    (hr : Reads w hi 3 A n (x.ov.flatMap sc)) (hz : n ≤ 1000000000 ∧ (A = none → c = 0)) (hhi : hi ≤ base)
    (hx : a.eval y = .slice (some ⟨w.heap.size, 0, none⟩) 1 1) (hlen : M.length ≤ 1000000000) (hbase : base ≤ w.heap.size)
    (h : ∀ v' w', OwnL w' hi base v' (M ++ [x]) → Below base w w' → (w.alloc (.cells u 35)).grownBy w' v.ownBlock → LiesIn (w.alloc (.cells u 35)) v v' → wpList Tryd.prog ops Q rest (a.put o.dst v') w') : wpList Tryd.prog ops Q (o :: rest) a (w.alloc (.cells u 35)) := by
  obtain ⟨L, hL, h1, h2⟩ := hown.row
  have hll : L.length = M.length := by rw [← hL, List.length_map]
  refine append_elem_b w u (mutL ⟨x, A, n, c⟩) (by rw [hu]; rfl) 35 hgd s y 22 ho base 35 (.agg #[.int .i64 0, .int .i64 0, .string ⟨#[]⟩, .string ⟨#[]⟩, .string ⟨#[]⟩, .int .i64 0, .int .i64 0, .int .i64 0, .int .i64 0, .slice none 0 0]) 10 120 Tryd.underlying22 info_mut rfl (by decide) v L.length (L.flatMap mutL) hs h1 rfl (mutL_one _) hx (by unfold maxLen; omega) (by omega) hbase ?_
  intro v' w' g1 g2 g3
  have hB : Below base w w' := Below.grown ((Below.refl base w).alloc hbase _) g2 (by rw [World.size_alloc]; omega) (fun q hq => (World.ownsRow.lt h1 q hq).1)
  refine h v' w' ⟨L ++ [⟨x, A, n, c⟩], by simp [hL], ?_, ?_⟩ hB g2 g3
  · rw [flat_snoc, List.length_append]
    exact g1
  · intro e he
    rcases List.mem_append.1 he with he | he
    · exact ⟨(h2 e he).1.below (hB.mono hhi), (h2 e he).2⟩
    · rw [List.mem_singleton.1 he]
      exact ⟨hr.below (hB.mono hhi), hz⟩

theorem cmpI_selfQ (a : Int) : cmpI a a = 0 := by unfold cmpI; simp
theorem cmp3_selfQ (s : Int × Int × Int) : cmp3 s s = 0 := by unfold cmp3 cmpS or3; simp [cmpI_selfQ]
theorem cmpT_selfQ (a : ByteArray) : cmpT a a = 0 := (cmpT_zero a a).2 rfl
theorem cmpR_selfQ : ∀ l : List (Int × Int × Int), cmpR l l = 0
  | [] => rfl
  | a :: l => by
    show (if cmp3 a a = 0 then cmpR l l else cmp3 a a) = 0
    rw [if_pos (cmp3_selfQ a), cmpR_selfQ l]
theorem cmpM_selfQ (m : Mut) : cmpM m m = 0 := by
  unfold cmpM
  rw [cmp3_selfQ, cmpI_selfQ, cmpI_selfQ, cmpT_selfQ, cmpT_selfQ, cmpT_selfQ, cmpI_selfQ, cmpR_selfQ]
  rfl
theorem sameM_selfQ (M : List Mut) : sameM M M = true := by
  unfold sameM
  rw [decide_eq_true rfl, Bool.true_and, List.all_eq_true]
  intro p hp
  obtain ⟨i, hi, rfl⟩ := List.mem_iff_getElem.1 hp
  rw [List.getElem_zip, cmpM_selfQ]
  rfl

theorem great1_no {e : MutS} (h : great1 e = false) : e.m.key.size ≤ 200 ∧ e.m.en.size ≤ 200 ∧ e.m.val.size ≤ 200 ∧ e.n ≤ 50 := by
  unfold great1 at h
  simp only [Bool.or_eq_false_iff, decide_eq_false_iff_not] at h
  omega
theorem mutI_of1 {w : World} {e : MutS} (h : MutQ w e) (hg : great1 e = false) : MutI e.m := by
  obtain ⟨z1, z2, z3, z4⟩ := great1_no hg
  have hl := stamps_n h.2.2.2.1
  obtain ⟨⟨a, b, c, d, f⟩, _⟩ := h.2.2.2.2
  exact ⟨a.2, b.2, c.2, ⟨d.1.2, d.2.1.2, d.2.2.2⟩, fun s hs => ⟨(f s hs).1.2, (f s hs).2.1.2, (f s hs).2.2.2⟩, by omega, by omega, by omega, by omega⟩
theorem rdL_of {w : World} {n : Nat} {A : Option Addr} {L : List MutS} (hr : Reads w w.heap.size 10 A n (L.flatMap mutL)) (hq : ∀ e ∈ L, MutQ w e) (hg : ∀ e ∈ L, great1 e = false) : RdL w w.heap.size A n L :=
  ⟨hr, fun e he => ⟨(hq e he).2.2.2.1, by have := great1_no (hg e he); omega, (hq e he).2.2.1⟩⟩
theorem tree_len {m : Mut} {l : List Mut} : (if (insM m l).2 = true then l.length + 1 else l.length) = (insM m l).1.length := (ins_len m l).symm

set_option maxRecDepth 100000 in
theorem law08_GreatBig (A : Option Addr) (n c : Nat) (most : Int) (w : World) (hm : most < (n : Int)) :
    Calls Tryd.prog 12 #[.slice A n c, .int .i64 most] w fun e w' => e = .returned (.bool true) ∧ w = w' := by
  have hd : decide (most < (n : Int)) = true := by simp [hm]
  go_enter Tryd.func12, Tryd.ntmps12
  go_wp2_with fail
  go_ret
  exact ⟨rfl, rfl⟩
end Go.Proofs.YthbhbechemnidaaDoor
