/- Contract of page.Cut. The walk of the law PageCuts: it returns true, and nothing that was there ahead of the call has turned. -/
import Derived.Test.YthbhbechemnidaaDoorMutR
import Derived.Test.YthbhbechemnidaaDoorOwnL
import Derived.Test.YthbhbechemnidaaDoorPagF
import Derived.Test.YthbhbechemnidaaDoorOpenMut
namespace Go.Proofs.YthbhbechemnidaaDoor
open Go.RowKit Go.Sort

/-- A row in rows of eight. -/
def chunks : Nat → List Mut → List (List Mut)
  | 0, _ => []
  | f + 1, M => if M.length = 0 then [] else M.take 8 :: chunks f (M.drop 8)
theorem chunks_flat : ∀ (f : Nat) (M : List Mut), M.length ≤ f → (chunks f M).flatten = M
  | 0, M, h => by
    have e : M = [] := List.eq_nil_of_length_eq_zero (by omega)
    rw [e]; rfl
  | f + 1, M, h => by
    unfold chunks
    split
    · rename_i h0
      rw [List.eq_nil_of_length_eq_zero h0]; rfl
    · rename_i h0
      rw [List.flatten_cons, chunks_flat f (M.drop 8) (by rw [List.length_drop]; omega), List.take_append_drop]
theorem chunks_len : ∀ (f : Nat) (M : List Mut), (chunks f M).length ≤ M.length
  | 0, M => Nat.zero_le _
  | f + 1, M => by
    unfold chunks
    split
    · exact Nat.zero_le _
    · have := chunks_len f (M.drop 8)
      rw [List.length_drop] at this
      rw [List.length_cons]
      omega
theorem chunks_ok : ∀ (f : Nat) (M : List Mut), M.length ≤ f → ∀ (i : Nat) (hi : i < (chunks f M).length), ((chunks f M)[i]).length ≤ 8 ∧ 0 < ((chunks f M)[i]).length ∧ (((chunks f M)[i]).length < 8 → i + 1 = (chunks f M).length)
  | 0, M, h, i, hi => absurd hi (Nat.not_lt_zero _)
  | f + 1, M, h, i, hi => by
    by_cases h0 : M.length = 0
    · have e : chunks (f + 1) M = [] := by unfold chunks; rw [if_pos h0]
      rw [e] at hi
      exact absurd hi (Nat.not_lt_zero _)
    · have e : chunks (f + 1) M = M.take 8 :: chunks f (M.drop 8) := by conv => lhs; unfold chunks; rw [if_neg h0]
      have hl : (M.drop 8).length ≤ f := by rw [List.length_drop]; omega
      cases i with
      | zero =>
        have e2 : (chunks (f + 1) M)[0] = M.take 8 := by simp only [e]; rfl
        rw [e2, List.length_take, e, List.length_cons]
        refine ⟨by omega, by omega, fun h9 => ?_⟩
        have := chunks_len f (M.drop 8)
        rw [List.length_drop] at this
        omega
      | succ i =>
        have hi' : i < (chunks f (M.drop 8)).length := by rw [e, List.length_cons] at hi; omega
        have e2 : (chunks (f + 1) M)[i + 1] = (chunks f (M.drop 8))[i] := by simp only [e]; rfl
        rw [e2, e, List.length_cons]
        have := chunks_ok f (M.drop 8) hl i hi'
        exact ⟨this.1, this.2.1, fun h9 => by have := this.2.2 h9; omega⟩

/-- A row of mutations that can be read, and lies in no block X. -/
def RdX (w : World) (X : Option Nat) (v : Value) (M : List Mut) : Prop :=
  ∃ (L : List MutS) (A : Option Addr) (c : Nat), v = .slice A L.length c ∧ L.map (·.m) = M ∧ Reads w w.heap.size 10 A L.length (L.flatMap mutL) ∧ (∀ ad, 0 < L.length → A = some ad → X ≠ some ad.block) ∧ HangM w X L ∧ (∀ e ∈ L, e.n ≤ 1000000000 ∧ (e.A = none → e.c = 0)) ∧ ∀ e ∈ L, ∀ ad, e.A = some ad → ad.block < w.heap.size
theorem RdX.below {w w' : World} {X : Option Nat} {v : Value} {M : List Mut} (h : RdX w X v M) (b : Below w.heap.size w w') : RdX w' X v M := by
  obtain ⟨L, A, c, h1, h2, h3, h4, h5, h6, h7⟩ := h
  exact ⟨L, A, c, h1, h2, (h3.below b).more b.size, h4, h5.below b, h6, fun e he ad hA => Nat.lt_of_lt_of_le (h7 e he ad hA) b.size⟩
theorem RdX.moved {w w' : World} {v v' u : Value} {M : List Mut} (h : RdX w v.ownBlock u M) (hg : w.grownBy w' v.ownBlock) (hl : LiesIn w v v') : RdX w' v'.ownBlock u M := by
  obtain ⟨L, A, c, h1, h2, h3, h4, h5, h6, h7⟩ := h
  refine ⟨L, A, c, h1, h2, ?_, ?_, h5.moved hg hl h7, h6, fun e he ad hA => Nat.lt_of_lt_of_le (h7 e he ad hA) hg.size⟩
  · refine ⟨h3.1, fun h0 => ?_⟩
    obtain ⟨ad, hA, hb, hc⟩ := h3.2 h0
    refine ⟨ad, hA, Nat.lt_of_lt_of_le hb hg.size, fun j x hx => ?_⟩
    rw [← hc j x hx]
    exact World.cell?_of_block (by rw [block_of_add]; exact hg.block ad.block hb (fun e => h4 ad h0 hA e.symm))
  · intro ad h0 hA
    rcases hl with hl | ⟨g, hl, hge⟩
    · rw [hl]; exact h4 ad h0 hA
    · rw [hl]
      intro e1
      injection e1 with e1
      obtain ⟨ad2, hA2, hb, -⟩ := h3.2 h0
      rw [hA] at hA2
      injection hA2 with hA2
      subst hA2
      omega
theorem RdX.of_own {w : World} {base lo : Nat} {v : Value} {M : List Mut} {X : Option Nat} (h : OwnM w base lo v M) (hX : ∀ q, X = some q → q < base ∧ q < lo) : RdX w X v M := by
  obtain ⟨L, rfl, h1, h2, h3, h4⟩ := h.row
  obtain ⟨A, c, rfl, hc, hn, -⟩ := own_form h1
  refine ⟨L, A, c, rfl, rfl, Reads.of_own h1, fun ad h0 hA e => ?_, fun e he => ⟨(h2 e he).1, fun ad hA e2 => ?_⟩, h3, fun e he ad hA => (h4 e he ad hA).2⟩
  · have := (World.ownsRow.lt h1 ad.block (by rw [hA]; rfl)).1
    have := (hX _ e).1
    omega
  · have := (h4 e he ad hA).1
    have := (hX _ e2).2
    omega
theorem RdX.rd {w : World} {X : Option Nat} {v : Value} {M : List Mut} (h : RdX w X v M) : ∃ A c, v = .slice A M.length c ∧ RdM w A M.length M := by
  obtain ⟨L, A, c, rfl, rfl, h3, h4, h5, h6, h7⟩ := h
  rw [List.length_map]
  exact ⟨A, c, rfl, L, rfl, h3, h5.free, h6⟩
/-- A row of pages that the call owns. -/
structure OwnPg (w : World) (base : Nat) (v : Value) (Ps : List (List Mut)) : Prop where
  row : ∃ E : List (Value × List Mut), E.map (·.2) = Ps ∧ w.ownsRow base 22 1 v E.length (E.map (·.1)) ∧ ∀ e ∈ E, RdX w v.ownBlock e.1 e.2
theorem OwnPg.nil_ (w : World) (base : Nat) : OwnPg w base (.slice none 0 0) [] := ⟨[], rfl, World.ownsRow_nil _ _ _ _, fun _ h => by cases h⟩
theorem OwnPg.below {w w' : World} {base : Nat} {v : Value} {Ps : List (List Mut)} (h : OwnPg w base v Ps) (b : Below w.heap.size w w') : OwnPg w' base v Ps := by
  obtain ⟨E, h1, h2, h3⟩ := h.row
  exact ⟨E, h1, own_below h2 b, fun e he => (h3 e he).below b⟩
theorem OwnPg.lt {w : World} {base : Nat} {v : Value} {Ps : List (List Mut)} (h : OwnPg w base v Ps) : ∀ k, v.ownBlock = some k → base ≤ k ∧ k < w.heap.size := by
  obtain ⟨E, h1, h2, h3⟩ := h.row
  exact World.ownsRow.lt h2
theorem info_muts : (Tryd.prog.info? 22).map (fun i => (i.zero, i.size, i.bytes)) = some (some (.slice none 0 0), 1, 24) := by kernel_rfl
theorem flat_lenM : ∀ L : List MutS, (L.flatMap mutL).length = L.length * 10
  | [] => rfl
  | e :: L => by
    rw [List.flatMap_cons, List.length_append, flat_lenM L, mutL_len, List.length_cons]
    omega
theorem RdM.take {w : World} {A : Option Addr} {n : Nat} {M : List Mut} (h : RdM w A n M) (k : Nat) (hk : k ≤ n) : RdM w A k (M.take k) := by
  obtain ⟨L, rfl, h1, h2, h3⟩ := h
  have hl := muts_n h1
  refine ⟨L.take k, List.map_take .., ?_, h2.sub (fun e he => List.mem_of_mem_take he), fun e he => h3 e (List.mem_of_mem_take he)⟩
  have hlen : ((L.take k).flatMap mutL).length = k * 10 := by
    rw [flat_lenM]
    simp
    omega
  refine ⟨hlen, fun h0 => ?_⟩
  obtain ⟨ad, hA, hb, hc⟩ := h1.2 (by omega)
  refine ⟨ad, hA, hb, fun j u hu => hc j u ?_⟩
  have hp : (L.take k).flatMap mutL <+: L.flatMap mutL := by
    refine ⟨(L.drop k).flatMap mutL, ?_⟩
    rw [← List.flatMap_append, List.take_append_drop]
  obtain ⟨t, ht⟩ := hp
  have hj := (List.getElem?_eq_some_iff.1 hu).1
  rw [← ht, List.getElem?_append_left hj]
  exact hu
theorem RdM.drop {w : World} {b off n : Nat} {M : List Mut} (h : RdM w (some ⟨b, off, none⟩) n M) (k : Nat) (hk : k ≤ n) : RdM w (some ⟨b, off + k * 10, none⟩) (n - k) (M.drop k) := by
  obtain ⟨L, rfl, h1, h2, h3⟩ := h
  have hl := muts_n h1
  refine ⟨L.drop k, List.map_drop .., ?_, h2.sub (fun e he => List.mem_of_mem_drop he), fun e he => h3 e (List.mem_of_mem_drop he)⟩
  have hlen : ((L.drop k).flatMap mutL).length = (n - k) * 10 := by
    rw [flat_lenM]
    simp
    omega
  have hlen2 : ((L.take k).flatMap mutL).length = k * 10 := by
    rw [flat_lenM]
    simp
    omega
  refine ⟨hlen, fun h0 => ?_⟩
  obtain ⟨ad, hA, hb, hc⟩ := h1.2 (by omega)
  injection hA with hA
  subst hA
  refine ⟨_, rfl, hb, fun j u hu => ?_⟩
  have := hc (k * 10 + j) u (by
    have e : L.flatMap mutL = (L.take k).flatMap mutL ++ (L.drop k).flatMap mutL := by rw [← List.flatMap_append, List.take_append_drop]
    rw [e, List.getElem?_append_right (by omega), hlen2, Nat.add_sub_cancel_left]
    exact hu)
  rw [add_lit] at this ⊢
  rw [← Nat.add_assoc] at this
  exact this
/-- 'append(out, page)'. -/
theorem append_page {ops : Array Oper} {rest : List Oper} {o : Oper} {a : Act} {Q : Exit → Act → World → Prop} (w : World) (x : Value) (X : List Mut) (u : Array Value) (hu : u = #[x]) (hgd : o.guard = none) (s y : Operand)
    (ho : o.op = .call { callee := .builtin .append, args := #[s, y], argTypes := #[69, 69] }) (base : Nat) (v : Value) (Ps : List (List Mut)) (hs : a.eval s = v) (hown : OwnPg w base v Ps)
    (hr : RdX w v.ownBlock x X) (hx : a.eval y = .slice (some ⟨w.heap.size, 0, none⟩) 1 1) (hlen : Ps.length ≤ 1000000000) (hbase : base ≤ w.heap.size)
    (h : ∀ v' w', OwnPg w' base v' (Ps ++ [X]) → Below base w w' → wpList Tryd.prog ops Q rest (a.put o.dst v') w') : wpList Tryd.prog ops Q (o :: rest) a (w.alloc (.cells u 22)) := by
  obtain ⟨E, hE, h1, h2⟩ := hown.row
  have hll : E.length = Ps.length := by rw [← hE, List.length_map]
  have hx1 : x.oneCell' = true := by
    obtain ⟨L, A, c, rfl, _⟩ := hr
    rfl
  refine append_elem_b w u [x] (by rw [hu]) 22 hgd s y 69 ho base 22 (.slice none 0 0) 1 24 Tryd.underlying69 info_muts rfl (by decide) v E.length (E.map (·.1)) hs h1 rfl (fun q hq => by rw [List.mem_singleton.1 hq]; exact hx1) hx (by unfold maxLen; omega) (by omega) hbase ?_
  intro v' w' g1 g2 g3
  have ba : Below w.heap.size w (w.alloc (.cells u 22)) := (Below.refl _ _).alloc (Nat.le_refl _) _
  have hB : Below base w w' := Below.grown ((Below.refl base w).alloc hbase _) g2 (by rw [World.size_alloc]; omega) (fun q hq => (World.ownsRow.lt h1 q hq).1)
  refine h v' w' ⟨E ++ [(x, X)], by simp [hE], ?_, ?_⟩ hB
  · rw [List.map_append, List.length_append]
    exact g1
  · intro e he
    rcases List.mem_append.1 he with he | he
    · exact ((h2 e he).below ba).moved g2 g3
    · rw [List.mem_singleton.1 he]
      exact (hr.below ba).moved g2 g3

set_option maxRecDepth 100000 in
set_option maxHeartbeats 4000000 in
theorem page_Cut (A : Option Addr) (n c : Nat) (M : List Mut) (w : World) (hr : RdM w A n M) (hA : A = none → c = 0) (hnc : n ≤ c) (hn : n ≤ 1000000) :
    Calls Tryd.prog 49 #[.slice A n c] w fun e w' => ∃ v, e = .returned v ∧ OwnPg w' w.heap.size v (chunks n M) ∧ Below w.heap.size w w' := by
  have hll := hr.n_eq
  obtain ⟨R, hR⟩ : ∃ R, chunks n M = R := ⟨_, rfl⟩
  have HR := Lib.hid hr
  have HLL := Lib.hid hll
  have O0 := OwnPg.nil_ w w.heap.size
  have HC : Hid (([] : List (List Mut)) ++ chunks n M = R) := Lib.hid hR
  rw [hR]
  clear hr hll hR
  go_enter Tryd.func49, Tryd.ntmps49
  go_wp2_with fail
  go_loopw [0, 3, 4] (fun v0 v3 _ wr => ∃ (A' : Option Addr) (m c' f : Nat) (K : List Mut) (Ps : List (List Mut)), v0 = .slice A' m c' ∧ RdM w A' m K ∧ (A' = none → c' = 0) ∧ m ≤ c' ∧ m ≤ f ∧ m ≤ n ∧ OwnPg wr w.heap.size v3 Ps ∧ Ps.length + m ≤ n ∧ Ps ++ chunks f K = R ∧ Below w.heap.size w wr) (fun v0 _ _ _ => match v0 with | .slice _ m _ => m | _ => 0)
  case atStart => exact ⟨A, n, c, n, M, [], rfl, HR.out, hA, hnc, Nat.le_refl _, Nat.le_refl _, O0, by simp, HC.out, Below.refl _ _⟩
  case round =>
    clear O0 HC
    obtain ⟨A', m, c', f, K, Ps, rfl, hr, hA', hmc, hmf, hmn, hO, hPl, hck, hB⟩ := hrel
    have HRK := Lib.hid hr
    have HKL := Lib.hid hr.n_eq
    have HO := Lib.hid hO
    have HCK := Lib.hid hck
    clear hr hO hck
    by_cases hm : 0 < m
    · obtain ⟨b, off, hAe⟩ : ∃ b off, A' = some ⟨b, off, none⟩ := by
        obtain ⟨L, _, h1, _⟩ := HRK.out
        obtain ⟨b, off, e, _⟩ := h1.formk hm (by decide)
        exact ⟨b, off, e⟩
      subst hAe
      obtain ⟨q, hq⟩ : ∃ q, min m 8 = q := ⟨_, rfl⟩
      have hqm : q ≤ m := by omega
      have hq1 : 1 ≤ q := by omega
      have hmin : min (m : Int) 8 = q := by omega
      obtain ⟨T, hT⟩ : ∃ T, K.take q = T := ⟨_, rfl⟩
      have HSt : Hid ((Ps ++ [T]) ++ chunks (f - 1) (K.drop q) = R) := Lib.hid (by
        have hl := HKL.out
        rw [← HCK.out]
        obtain ⟨f', rfl⟩ : ∃ f', f = f' + 1 := ⟨f - 1, by omega⟩
        have e1 : chunks (f' + 1) K = K.take 8 :: chunks f' (K.drop 8) := by conv => lhs; unfold chunks; rw [if_neg (by omega)]
        have e2 : K.take 8 = T := by
          rw [← hT, ← hq]
          by_cases h8 : 8 ≤ m
          · rw [Nat.min_eq_right h8]
          · rw [Nat.min_eq_left (by omega), List.take_of_length_le (by omega), List.take_of_length_le (by omega)]
        have e3 : K.drop 8 = K.drop q := by
          rw [← hq]
          by_cases h8 : 8 ≤ m
          · rw [Nat.min_eq_right h8]
          · rw [Nat.min_eq_left (by omega), List.drop_eq_nil_of_le (by omega), List.drop_eq_nil_of_le (by omega)]
        rw [e1, e2, e3, Nat.add_sub_cancel]
        simp)
      have CC := Lib.hid (hT ▸ mut_Copies (some ⟨b, off, none⟩) q q (K.take q) wr ((HRK.out.below hB).take q hqm) (by omega))
      go_upto_region 3 with fail
      go_wp2_with fail
      refine CC.out.mono ?_
      clear CC
      rintro x w1 ⟨v1, rfl, O1, b1⟩
      have HX := Lib.hid (RdX.of_own (X := u3.ownBlock) O1 (fun k hk => by have := (HO.out.lt k hk).2; omega))
      replace HO := Lib.hid (HO.out.below b1)
      replace hB := hB.trans (b1.mono hB.size)
      clear b1 O1
      obtain ⟨E0, -, h0, -⟩ := HO.out.row
      obtain ⟨A3, m3, c3, rfl⟩ := own_slice h0
      obtain ⟨A1, c1, rfl, -⟩ := HX.out.rd
      clear hT
      have hb1 := hB.size
      have hPl9 : Ps.length ≤ 1000000000 := by omega
      clear h0
      go_wp2_with (at_builtin; go_must (refine append_page w1 (.slice A1 T.length c1) T _ rfl rfl _ _ rfl w.heap.size (.slice A3 m3 c3) Ps rfl HO.out HX.out rfl hPl9 hb1 ?_); intro v7 w7 O7 b7)
      refine ⟨?_, by show m - q < m; omega⟩
      have hd := HRK.out.drop q hqm
      have hPs : (Ps ++ [T]).length + (m - q) ≤ n := by rw [List.length_append]; show Ps.length + 1 + (m - q) ≤ n; omega
      have hB9 := hB.trans b7
      by_cases hcq : c' = q
      · rw [if_pos hcq]
        have hmq : m - q = 0 := by omega
        refine ⟨_, _, _, f - 1, K.drop q, Ps ++ [T], rfl, ?_, (fun h => by cases h), by omega, by omega, by omega, O7, hPs, HSt.out, hB9⟩
        obtain ⟨L, h1, h2, h3, h4⟩ := hd
        rw [hmq] at h2 ⊢
        exact ⟨L, h1, ⟨h2.1, fun h => absurd h (Nat.lt_irrefl 0)⟩, h3, h4⟩
      · rw [if_neg hcq]
        exact ⟨_, _, _, f - 1, K.drop q, Ps ++ [T], rfl, hd, (fun h => by cases h), by omega, by omega, by omega, O7, hPs, HSt.out, hB9⟩
    · have hm0 : m = 0 := by omega
      subst hm0
      have hRe : Ps = R := by
        have h1 := HCK.out
        have h2 : K = [] := List.eq_nil_of_length_eq_zero HKL.out
        rw [h2] at h1
        have h3 : chunks f [] = [] := by cases f <;> rfl
        rw [h3, List.append_nil] at h1
        exact h1
      rw [hRe] at HO
      go_wp2_with fail
      go_ret
      exact ⟨_, rfl, HO.out, hB⟩
end Go.Proofs.YthbhbechemnidaaDoor

namespace Go.Proofs.YthbhbechemnidaaDoor
open Go.RowKit Go.Sort

/-- 'append(all, page...)'. -/
theorem append_muts_l {ops : Array Oper} {rest : List Oper} {o : Oper} {a : Act} {Q : Exit → Act → World → Prop} (w : World) (A : Option Addr) (c : Nat) (K : List MutS) (hgd : o.guard = none) (s y : Operand)
    (ho : o.op = .call { callee := .builtin .append, args := #[s, y], argTypes := #[22, 22] }) (hi base : Nat) (v : Value) (M : List Mut) (hs : a.eval s = v) (hown : OwnL w hi base v M)
    (hr : RdL w hi A K.length K) (hhi : hi ≤ base) (hx : a.eval y = .slice A K.length c) (hlen : M.length + K.length ≤ 1000000000) (hbase : base ≤ w.heap.size)
    (h : ∀ v' w', OwnL w' hi base v' (M ++ K.map (·.m)) → Below base w w' → wpList Tryd.prog ops Q rest (a.put o.dst v') w') : wpList Tryd.prog ops Q (o :: rest) a w := by
  obtain ⟨L, hL, h1, h2⟩ := hown.row
  have hll : L.length = M.length := by rw [← hL, List.length_map]
  obtain ⟨i0, hii, hz0, hz1, hz2⟩ := info_parts info_mut
  refine wpList_append_any w hgd s y 22 ho base 35 i0 (.agg #[.int .i64 0, .int .i64 0, .string ⟨#[]⟩, .string ⟨#[]⟩, .string ⟨#[]⟩, .int .i64 0, .int .i64 0, .int .i64 0, .int .i64 0, .slice none 0 0]) 10 120 Tryd.underlying22 hii hz0 hz1 hz2 rfl (by decide) v L.length (L.flatMap mutL) hs h1 w.heap.size A K.length c (K.flatMap mutL) hx hr.1 (fun u hu => by
    obtain ⟨e, he, hue⟩ := List.mem_flatMap.1 hu
    exact mutL_one e u hue) (by unfold maxLen; omega) (by omega) hbase ?_
  intro v' w' g1 g2 g3
  have hB : Below base w w' := Below.grown (Below.refl base w) g2 hbase (fun q hq => (World.ownsRow.lt h1 q hq).1)
  refine h v' w' ⟨L ++ K, by simp [hL], ?_, ?_⟩ hB
  · rw [List.flatMap_append, List.length_append]
    exact g1
  · intro e he
    rcases List.mem_append.1 he with he | he
    · exact ⟨(h2 e he).1.below (hB.mono hhi), (h2 e he).2⟩
    · exact ⟨(hr.2 e he).1.below (hB.mono hhi), (hr.2 e he).2⟩
theorem RdX.rdl {w : World} {X : Option Nat} {v : Value} {M : List Mut} (h : RdX w X v M) : ∃ (L : List MutS) (A : Option Addr) (c : Nat), v = .slice A L.length c ∧ L.map (·.m) = M ∧ RdL w w.heap.size A L.length L := by
  obtain ⟨L, A, c, rfl, h2, h3, h4, h5, h6, h7⟩ := h
  exact ⟨L, A, c, rfl, h2, h3, fun e he => ⟨(h5 e he).1, h6 e he⟩⟩
theorem great1_noC {e : MutS} (h : great1 e = false) : e.n ≤ 50 := by
  unfold great1 at h
  simp only [Bool.or_eq_false_iff, decide_eq_false_iff_not] at h
  omega
set_option maxRecDepth 100000 in
theorem law08_GreatBigC (A : Option Addr) (n c : Nat) (most : Int) (w : World) (hm : most < (n : Int)) :
    Calls Tryd.prog 12 #[.slice A n c, .int .i64 most] w fun e w' => e = .returned (.bool true) ∧ w = w' := by
  have hd : decide (most < (n : Int)) = true := by simp [hm]
  go_enter Tryd.func12, Tryd.ntmps12
  go_wp2_with fail
  go_ret
  exact ⟨rfl, rfl⟩

set_option maxRecDepth 100000 in
set_option maxHeartbeats 4000000 in
theorem page_cuts_walk (w : World) (hT : Tabs w) (A0 : Option Addr) (n0 c0 : Nat) (L0 : List MutS) (hnc : n0 ≤ c0) (_hc0 : c0 ≤ maxLen) (hA0 : A0 = none → c0 = 0) (hl0 : L0.length = n0) (hq0 : ∀ e ∈ L0, MutQ w e) (hr0 : Reads w w.heap.size 10 A0 n0 (L0.flatMap mutL)) :
    Calls Tryd.prog 9 #[.slice A0 n0 c0] w fun e w' => e = .returned (.bool true) ∧ Below w.heap.size w w' := by
  by_cases hn : 60 < n0
  · have CG := Lib.hid (law08_GreatBigC A0 n0 c0 60 w (by omega))
    clear hq0 hr0 hnc _hc0 hA0 hl0 hT hn
    go_enter Tryd.func9, Tryd.ntmps9
    go_wp2_with fail
    refine CG.out.mono ?_
    rintro x w1 ⟨rfl, rfl⟩
    go_wp2_with fail
    go_ret
    exact ⟨rfl, Below.refl _ _⟩
  have hn60 : n0 ≤ 60 := by omega
  obtain ⟨g, hg⟩ : ∃ g, (decide ((60 : Int) < (n0 : Int)) || L0.any great1) = g := ⟨_, rfl⟩
  have CG := Lib.hid (law08_Great A0 n0 c0 L0 60 w hr0 (by omega))
  rw [hg] at CG
  have HG := Lib.hid hg
  have HR0 := Lib.hid hr0
  have HQ0 := Lib.hid hq0
  have HL0 := Lib.hid hl0
  have HT := Lib.hid hT
  clear hq0 hr0 _hc0 hl0 hT hn hg
  go_enter Tryd.func9, Tryd.ntmps9
  go_wp2_with fail
  refine CG.out.mono ?_
  rintro x w1 ⟨rfl, rfl⟩
  clear CG
  cases g with
  | true =>
    go_wp2_with fail
    go_ret
    exact ⟨rfl, Below.refl _ _⟩
  | false =>
  have hg1 : ∀ e ∈ L0, great1 e = false := fun e he => by
    have h := HG.out
    rw [Bool.or_eq_false_iff, List.any_eq_false] at h
    simpa using h.2 e he
  have RM : RdM w A0 n0 (L0.map (·.m)) := ⟨L0, rfl, HR0.out, fun e he => ⟨(HQ0.out e he).2.2.2.1, fun _ _ => by simp⟩, fun e he => ⟨by have := great1_noC (hg1 e he); omega, (HQ0.out e he).2.2.1⟩⟩
  obtain ⟨M, hM⟩ : ∃ M, L0.map (·.m) = M := ⟨_, rfl⟩
  rw [hM] at RM
  have hMl : M.length = n0 := RM.n_eq
  have HRM := Lib.hid RM
  have CC := Lib.hid (page_Cut A0 n0 c0 M w RM hA0 hnc (by omega))
  have HCF := Lib.hid (chunks_flat n0 M (by omega))
  have HCO := Lib.hid (chunks_ok n0 M (by omega))
  have hcl := chunks_len n0 M
  obtain ⟨P, hP⟩ : ∃ P, chunks n0 M = P := ⟨_, rfl⟩
  rw [hP] at CC HCF HCO hcl
  have hPl : P.length ≤ 60 := by omega
  have HML := Lib.hid hMl
  clear hP RM hM hg1 HG HR0 HQ0 hMl hcl
  go_wp2_with fail
  refine CC.out.mono ?_
  clear CC
  rintro x W ⟨v3, rfl, O3, hB⟩
  obtain ⟨E, hE1, hE2, hE3⟩ := O3.row
  have hEl : E.length = P.length := by rw [← hE1, List.length_map]
  obtain ⟨A3, c3, rfl, -, -, -⟩ := own_form hE2
  have HE1 := Lib.hid hE1
  have HRE := Lib.hid (Reads.of_own hE2)
  have HE3 := Lib.hid hE3
  rw [hEl]
  have HEL := Lib.hid hEl
  have hww := hB.size
  clear O3 hE1 hE2 hE3 hEl
  have O0 := OwnL.nil_ W W.heap.size W.heap.size
  go_wp2_with fail
  go_loopw [4, 5] (fun v4 v5 wr => ∃ k : Nat, v5 = .int .i64 k ∧ k ≤ P.length ∧ OwnL wr W.heap.size W.heap.size v4 ((P.take k).flatten) ∧ Below W.heap.size W wr) (fun _ v5 _ => P.length - (RowKit.intOf v5).toNat)
  case atStart => exact ⟨0, rfl, Nat.zero_le _, O0, Below.refl _ _⟩
  case round =>
    clear O0
    obtain ⟨k, rfl, hk, hO, hBW⟩ := hrel
    have HO := Lib.hid hO
    clear hO
    by_cases hkn : k < P.length
    · have hkE : k < E.length := by rw [HEL.out]; exact hkn
      obtain ⟨b3, off3, hA3, hb3, hc3⟩ := HRE.out.formk (by omega) (by decide)
      subst hA3
      obtain ⟨L, A, c, hv, hLM, hRL⟩ := (HE3.out E[k] (List.getElem_mem hkE)).rdl
      obtain ⟨T, hT⟩ : ∃ T, P[k] = T := ⟨_, rfl⟩
      have hEk : (E[k]).2 = T := by
        rw [← hT]
        have := HE1.out
        subst this
        rw [List.getElem_map]
      rw [hEk] at hLM
      have hcell : wr.cell? ⟨b3, off3 + k, none⟩ = some (.slice A L.length c) := by
        refine (hBW.cell (p := ⟨b3, off3 + k, none⟩) hb3).trans ?_
        refine hc3 k _ ?_
        rw [List.getElem?_map, List.getElem?_eq_getElem hkE]
        show some (E[k]).1 = _
        rw [hv]
      obtain ⟨h8, h0, hlast⟩ := HCO.out k hkn
      rw [hT] at h8 h0 hlast
      have hLl : L.length = T.length := by rw [← hLM, List.length_map]
      obtain ⟨t, ht⟩ : ∃ t, L.length = t := ⟨_, rfl⟩
      have hRL' : RdL wr W.heap.size A L.length L := hRL.below hBW (Nat.le_refl _)
      have HRL := Lib.hid hRL'
      have HLM := Lib.hid hLM
      have HT1 := Lib.hid hT
      have htk : Hid ((P.take (k + 1)).flatten = (P.take k).flatten ++ T) := Lib.hid (by
        rw [List.take_succ_eq_append_getElem hkn, List.flatten_append, hT]
        simp)
      have hFl : ((P.take k).flatten).length + L.length ≤ 1000000000 := by
        have h1 := congrArg List.length htk.out
        rw [List.length_append] at h1
        have h2 : ((P.take (k + 1)).flatten).length ≤ (P.flatten).length := by
          conv => rhs; rw [← List.take_append_drop (k + 1) P]
          rw [List.flatten_append, List.length_append]
          omega
        rw [HCF.out, HML.out] at h2
        omega
      obtain ⟨F, hF⟩ : ∃ F, (P.take k).flatten = F := ⟨_, rfl⟩
      rw [hF] at htk hFl HO
      obtain ⟨A4, c4, L4, rfl, -, -, -, -⟩ := HO.out.rd
      have hWw := hBW.size
      have ht8 : t < 8 → ¬ k + 1 < P.length := fun h => by have := hlast (by omega); omega
      have ht0 : 0 < t := by omega
      have ht8' : t ≤ 8 := by omega
      rw [ht] at hcell hFl
      have HTT := Lib.hid ht
      clear hc3 hb3 hv hEk hLM hRL hRL' hT hLl h8 h0 hlast hF ht
      have g1 : decide ((8 : Int) < (t : Int)) = false := by simp; omega
      have g4 : ((t : Int) == 0) = false := by simp; omega
      go_upto_region 8 with fail
      go_cut [44] from 10 to 50 (fun s wx => s = .bool false ∧ wx = wr)
      case first =>
        by_cases h78 : t < 8
        · have g2 : decide ((t : Int) < 8) = true := by simp; omega
          have g3 : decide ((k : Int) + 1 < (P.length : Int)) = false := by simp; have := ht8 h78; omega
          clear ht8 ht8' ht0 h78
          go_wp2_with fail
          go_meet
          case rel => exact ⟨rfl, rfl⟩
        · have g2 : decide ((t : Int) < 8) = false := by simp; omega
          clear ht8 ht8' ht0 h78
          go_wp2_with fail
          go_meet
          case rel => exact ⟨rfl, rfl⟩
      case rest =>
      obtain ⟨rfl, hwc⟩ := hcut
      subst hwc
      obtain ⟨W3, hW3⟩ : ∃ W3, W3 = wc := ⟨_, rfl⟩
      subst hW3
      clear ht8 ht8' ht0
      go_wp2_with (at_builtin; go_must (refine append_muts_l W3 A c L rfl _ _ rfl W.heap.size W.heap.size _ F rfl HO.out HRL.out (Nat.le_refl _) (by rw [HTT.out]; rfl) (by rw [HTT.out]; exact hFl) hWw ?_); intro v7 w7 O7 b7)
      go_roundw
      case rel => exact ⟨k + 1, by go_num, hkn, by rw [htk.out, ← HLM.out]; exact O7, hBW.trans b7⟩
      case measure => simp [RowKit.intOf]; omega
    · have hk' : k = P.length := by omega
      subst hk'
      rw [List.take_length, HCF.out] at HO
      obtain ⟨A4, c4, L4, rfl, -, -, hL4, R4⟩ := HO.out.rd
      have hBw := hB.trans (hBW.mono hww)
      have R4' := R4.rdm hBW.size
      rw [hL4] at R4'
      have CS := ref07_Same A4 A0 M.length c4 n0 c0 M M wr R4' (HRM.out.below hBw) (by have := HML.out; omega)
      rw [sameM_selfP] at CS
      have CS := Lib.hid CS
      clear R4 R4' hL4 HO
      go_wp2_with fail
      refine CS.out.mono ?_
      clear CS
      rintro x w5 ⟨rfl, b5⟩
      have hB5 := hBw.trans (b5.mono hBw.size)
      clear b5 hBw
      have CA := Lib.hid (alive15 w5 (HT.out.in_ (Nat.le_refl _) hB5))
      go_wp2_with fail
      refine CA.out.mono ?_
      rintro x w6 ⟨rfl, b6⟩
      have hB6 := hB5.trans (b6.mono hB5.size)
      clear b6 hB5 CA
      go_wp2_with fail
      go_ret
      exact ⟨rfl, hB6⟩
end Go.Proofs.YthbhbechemnidaaDoor
