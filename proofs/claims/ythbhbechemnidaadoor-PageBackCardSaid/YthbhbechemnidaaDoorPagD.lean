/- Contract of page.Put: a page's bytes. Contract of the reference's shared: how many bytes two texts begin with that are the same, rune by rune. Contract of the reference's Put of a page. -/
import Derived.Test.YthbhbechemnidaaDoorPagA
import Derived.Test.YthbhbechemnidaaDoorMutR
namespace Go.Proofs.YthbhbechemnidaaDoor
open Go.RowKit Go.Sort

theorem lastv {out : List Mut} (h : ∀ m ∈ out, MutRt m) : allRunes (lastK out) = true ∧ (lastK out).size ≤ 24 := by
  unfold lastK
  cases hg : out.getLast? with
  | none => exact ⟨valid_nil, Nat.zero_le _⟩
  | some p =>
    have hk := (h p (List.mem_of_getLast? hg)).2.1
    exact ⟨key_valid hk, key_size hk⟩
theorem grown_belowP {w a b : World} {row : Option Nat} (h : w.grownBy a row) (hb : Below a.heap.size a b) : w.grownBy b row :=
  ⟨hb.os.trans h.os, hb.tape.trans h.tape, hb.output.trans h.output, Nat.le_trans h.size hb.size, fun k hk hne => (hb.block k (Nat.lt_of_lt_of_le hk h.size)).trans (h.block k hk hne)⟩
theorem wtext_lenP (l : List UInt8) (h : l.length ≤ 24) : (wtext l).length ≤ 33 := by
  have := wput_length l.length (by omega)
  unfold wtext
  rw [List.length_append]
  omega
theorem body_len : ∀ (M : List Mut) (last : ByteArray), allRunes last = true → last.size ≤ 24 → (∀ m ∈ M, MutRt m) → (pgBody last M).length ≤ 30000100 * M.length
  | [], _, _, _, _ => Nat.zero_le _
  | m :: t, last, hv, hl, h => by
    have hm := h m (List.mem_cons_self ..)
    have hk := key_size hm.2.1
    have ih := body_len t m.key (key_valid hm.2.1) hk (fun x hx => h x (List.mem_cons_of_mem _ hx))
    have h1 := sh_left (b := m.key) hv
    have h2 := wput_length (sh last m.key) (by omega)
    have h3 := wtext_lenP ((bs m.key).drop (sh last m.key)) (by rw [List.length_drop, bs_length]; omega)
    have h4 := mrest_len m (mutI_of hm)
    show (wput (sh last m.key) ++ wtext ((bs m.key).drop (sh last m.key)) ++ mrest m ++ pgBody m.key t).length ≤ 30000100 * (t.length + 1)
    simp only [List.length_append]
    omega
theorem body_take (M : List Mut) (k : Nat) (hk : k < M.length) : pgBody ⟨#[]⟩ (M.take (k + 1)) = pgBody ⟨#[]⟩ (M.take k) ++ (wput (sh (lastK (M.take k)) M[k].key) ++ wtext ((bs M[k].key).drop (sh (lastK (M.take k)) M[k].key)) ++ mrest M[k]) := by
  rw [List.take_succ_eq_append_getElem hk, body_snoc0]
theorem last_take (M : List Mut) (k : Nat) (hk : k < M.length) : lastK (M.take (k + 1)) = M[k].key := by
  rw [List.take_succ_eq_append_getElem hk, lastK_snoc]
theorem ext_drop (s : ByteArray) (k : Nat) : (s.extract k s.size).data.toList = (bs s).drop k := by
  show bl _ = _
  rw [bl_extract, List.take_of_length_le (by rw [bl_length]; exact Nat.le_refl _)]
  rfl

set_option maxRecDepth 100000 in
set_option maxHeartbeats 8000000 in
theorem page_Put (w0 w : World) (base : Nat) (v : Value) (l : List UInt8) (A : Option Addr) (n c : Nat) (M : List Mut) (hown : Own w base v l) (hbase : base ≤ w.heap.size) (h0 : w0.heap.size ≤ base) (hb0 : Below w0.heap.size w0 w) (hr : RdM w0 A n M) (hi : ∀ m ∈ M, MutRt m) (hn : n ≤ 1000) (hlen : l.length ≤ 1000000) :
    Calls Tryd.prog 53 #[v, .slice A n c] w (Puts w base v (l ++ pgPut M)) := by
  have hll := hr.n_eq
  have HR := Lib.hid hr
  have HLL := Lib.hid hll
  have HI := Lib.hid hi
  have H0 := Lib.hid hb0
  have hl0 := wputI_len (n : Int) (by omega)
  have HV := Lib.hid (fun k (hk : v.ownBlock = some k) => (hown.lt k hk).1)
  have HO := Lib.hid hown
  clear hr hll hi hown hb0
  go_enter Tryd.func53, Tryd.ntmps53
  go_wp2_with fail
  refine (wire_Put w base v l (n : Int) HO.out hbase (by omega) (by omega)).mono ?_
  rintro x w1 ⟨v1, rfl, O1, G1, L1⟩
  clear HO
  go_wp2_with fail
  go_loopw [0, 5, 7, 8, 15] (fun u0 v5 _ _ v15 wr => ∃ k : Nat, v15 = .int .i64 k ∧ k ≤ n ∧ v5 = .string (lastK (M.take k)) ∧ Own wr base u0 ((l ++ wputI (n : Int)) ++ pgBody ⟨#[]⟩ (M.take k)) ∧ w.grownBy wr v.ownBlock ∧ Lies w v u0) (fun _ _ _ _ v15 _ => n - (RowKit.intOf v15).toNat)
  case atStart => exact ⟨0, rfl, Nat.zero_le _, by rw [List.take_zero]; rfl, by simpa [pgBody] using O1, G1, L1⟩
  case round =>
    clear O1 G1 L1
    obtain ⟨k, rfl, hk, rfl, O, G, L⟩ := hrel
    have hBb : Below base w wr := ⟨G.os, G.tape, G.output, G.size, fun q hq => G.block q (Nat.lt_of_lt_of_le hq hbase) (fun e => by have := HV.out q e.symm; omega)⟩
    have hB0 : Below w0.heap.size w0 wr := H0.out.trans (hBb.mono h0)
    have hbw : base ≤ wr.heap.size := Nat.le_trans hbase G.size
    by_cases hkn : k < n
    · have hkT : k < M.length := by have := HLL.out; omega
      obtain ⟨x, b, off, hx, hA, hb, hc, hrx, hz, -⟩ := HR.out.at_ hkT
      subst hA
      have hid := HI.out M[k] (List.getElem_mem hkT)
      have hlv := lastv (fun m hm => HI.out m (List.mem_of_mem_take (i := k) hm))
      have hsl := body_len (M.take k) ⟨#[]⟩ valid_nil (Nat.zero_le _) (fun s hs => HI.out s (List.mem_of_mem_take hs))
      rw [List.length_take] at hsl
      have HF := body_take M k hkT
      have HF2 := last_take M k hkT
      rw [← hx] at hid HF HF2
      obtain ⟨last, hlast⟩ : ∃ q, lastK (M.take k) = q := ⟨_, rfl⟩
      rw [hlast] at HF hlv ⊢
      obtain ⟨S, hS⟩ : ∃ S, sh last x.m.key = S := ⟨_, rfl⟩
      have hSk := sh_right (a := last) (key_valid hid.2.1)
      have hks := key_size hid.2.1
      rw [hS] at HF hSk
      have HF := Lib.hid HF
      have HF2 := Lib.hid HF2
      obtain ⟨LB, hLB⟩ : ∃ q, (l ++ wputI (n : Int)) ++ pgBody ⟨#[]⟩ (M.take k) = q := ⟨_, rfl⟩
      have hll : LB.length ≤ 90000000000 := by rw [← hLB, List.length_append, List.length_append]; omega
      rw [hLB] at O
      have HLB := Lib.hid hLB
      have HRX := Lib.hid (((hrx.below hB0).more h0).alloc hbw (.cells (mutC x.m (.slice x.A x.n x.c)) 35))
      have HID := Lib.hid hid
      have HSH := Lib.hid hS
      have HLV := Lib.hid hlv
      clear hsl hx hrx hid hz hLB hlast hS hlv
      have hc' : ∀ i u, i < 10 → (mutL x)[i]? = some u → wr.cell? ⟨b, off + k * 10 + i, none⟩ = some u := fun i u hi hu => (World.cell?_of_block (hB0.block b hb)).trans (hc i u hi hu)
      have c0 : wr.cell? ⟨b, off + k * 10, none⟩ = some (.int .i64 x.m.tab) := hc' 0 _ (by decide) rfl
      have c1 : wr.cell? ⟨b, off + k * 10 + 1, none⟩ = some (.int .i64 x.m.kind) := hc' 1 _ (by decide) rfl
      have c2 : wr.cell? ⟨b, off + k * 10 + 2, none⟩ = some (.string x.m.key) := hc' 2 _ (by decide) rfl
      have c3 : wr.cell? ⟨b, off + k * 10 + 3, none⟩ = some (.string x.m.en) := hc' 3 _ (by decide) rfl
      have c4 : wr.cell? ⟨b, off + k * 10 + 4, none⟩ = some (.string x.m.val) := hc' 4 _ (by decide) rfl
      have c5 : wr.cell? ⟨b, off + k * 10 + 5, none⟩ = some (.int .i64 x.m.exp) := hc' 5 _ (by decide) rfl
      have c6 : wr.cell? ⟨b, off + k * 10 + 6, none⟩ = some (.int .i64 x.m.at_.1) := hc' 6 _ (by decide) rfl
      have c7 : wr.cell? ⟨b, off + k * 10 + 7, none⟩ = some (.int .i64 x.m.at_.2.1) := hc' 7 _ (by decide) rfl
      have c8 : wr.cell? ⟨b, off + k * 10 + 8, none⟩ = some (.int .i64 x.m.at_.2.2) := hc' 8 _ (by decide) rfl
      have c9 : wr.cell? ⟨b, off + k * 10 + 9, none⟩ = some (.slice x.A x.n x.c) := hc' 9 _ (by decide) rfl
      clear hc hc'
      have BT := Blk.new wr 35 (mutC x.m (.slice x.A x.n x.c))
      have OA := O.alloc (.cells (mutC x.m (.slice x.A x.n x.c)) 35)
      have hgm : ∀ q, u0.ownBlock = some q → q < wr.heap.size := fun q hq => (O.lt q hq).2
      have GA := grown_alloc G (.cells (mutC x.m (.slice x.A x.n x.c)) 35)
      have hbA : base ≤ (wr.alloc (.cells (mutC x.m (.slice x.A x.n x.c)) 35)).heap.size := by rw [World.size_alloc]; omega
      have hsz1 : (wr.alloc (.cells (mutC x.m (.slice x.A x.n x.c)) 35)).heap.size = wr.heap.size + 1 := World.size_alloc _ _
      go_upto_region 6 with fail
      change Code.wp _ _ _ _ (wr.alloc (.cells (mutC x.m (.slice x.A x.n x.c)) 35))
      clear c0 c1 c2 c3 c4 c5 c6 c7 c8 c9
      generalize wr.alloc (.cells (mutC x.m (.slice x.A x.n x.c)) 35) = W1 at *
      obtain ⟨gm, hgmE⟩ : ∃ q, wr.heap.size = q := ⟨_, rfl⟩
      rw [hgmE] at BT hgm hsz1 ⊢
      have d2 : W1.cell? ⟨gm, 2, none⟩ = some (.string x.m.key) := BT.cell 2
      have CS := Lib.hid (page_shared last x.m.key HLV.out.1 (key_valid HID.out.2.1) (by have := HLV.out.2; omega) (by omega) W1)
      rw [HSH.out] at CS
      go_wp2_with fail
      refine CS.out.mono ?_
      rintro y w6 ⟨rfl, b6⟩
      clear CS d2
      have O6 := Lib.hid (OA.below b6)
      have G6 := grown_belowP GA b6
      have B6 := BT.below b6 BT.lt
      have hs6 := b6.size
      have HRX6 := Lib.hid (HRX.out.below (b6.mono hbA))
      have hb6 : base ≤ w6.heap.size := Nat.le_trans hbA hs6
      have hgl : gm < w6.heap.size := by omega
      have hne : Hid (u0.ownBlock ≠ some gm) := Lib.hid (fun e => by have := hgm _ e; omega)
      clear O OA GA G BT b6 HRX
      go_upto_region 7 with fail
      have q0 : ∀ p : Kept (Outer w6.heap.size u0) w6.drew, p.v.cell? ⟨gm, 0, none⟩ = some (.int .i64 x.m.tab) := fun p => p.h.cell ⟨hgl, hne.out⟩ (B6.drew.cell 0)
      have q1 : ∀ p : Kept (Outer w6.heap.size u0) w6.drew, p.v.cell? ⟨gm, 1, none⟩ = some (.int .i64 x.m.kind) := fun p => p.h.cell ⟨hgl, hne.out⟩ (B6.drew.cell 1)
      have q2 : ∀ p : Kept (Outer w6.heap.size u0) w6.drew, p.v.cell? ⟨gm, 2, none⟩ = some (.string x.m.key) := fun p => p.h.cell ⟨hgl, hne.out⟩ (B6.drew.cell 2)
      have q3 : ∀ p : Kept (Outer w6.heap.size u0) w6.drew, p.v.cell? ⟨gm, 3, none⟩ = some (.string x.m.en) := fun p => p.h.cell ⟨hgl, hne.out⟩ (B6.drew.cell 3)
      have q4 : ∀ p : Kept (Outer w6.heap.size u0) w6.drew, p.v.cell? ⟨gm, 4, none⟩ = some (.string x.m.val) := fun p => p.h.cell ⟨hgl, hne.out⟩ (B6.drew.cell 4)
      have q5 : ∀ p : Kept (Outer w6.heap.size u0) w6.drew, p.v.cell? ⟨gm, 5, none⟩ = some (.int .i64 x.m.exp) := fun p => p.h.cell ⟨hgl, hne.out⟩ (B6.drew.cell 5)
      have q6 : ∀ p : Kept (Outer w6.heap.size u0) w6.drew, p.v.cell? ⟨gm, 6, none⟩ = some (.int .i64 x.m.at_.1) := fun p => p.h.cell ⟨hgl, hne.out⟩ (B6.drew.cell 6)
      have q7 : ∀ p : Kept (Outer w6.heap.size u0) w6.drew, p.v.cell? ⟨gm, 7, none⟩ = some (.int .i64 x.m.at_.2.1) := fun p => p.h.cell ⟨hgl, hne.out⟩ (B6.drew.cell 7)
      have q8 : ∀ p : Kept (Outer w6.heap.size u0) w6.drew, p.v.cell? ⟨gm, 8, none⟩ = some (.int .i64 x.m.at_.2.2) := fun p => p.h.cell ⟨hgl, hne.out⟩ (B6.drew.cell 8)
      have q9 : ∀ p : Kept (Outer w6.heap.size u0) w6.drew, p.v.cell? ⟨gm, 9, none⟩ = some (.slice x.A x.n x.c) := fun p => p.h.cell ⟨hgl, hne.out⟩ (B6.drew.cell 9)
      refine wp_region_mixDk (M := []) (Outer w6.heap.size u0) [0, 1, 3, 4, 5, 6, 8, 2, 7, 9, 10] (by kernel_rfl) (by kernel_rfl) ?_
      iterate 7 (refine mix_calmDk rfl rfl ?_; go_big_quiet_step (fail); refine wpQuiet_nil ?_)
      have hWs : w6.heap.size ≤ w6.drew.heap.size := Nat.le_refl _
      refine mix_loudDk rfl (by kernel_rfl) rfl ?_
      intro K1 hK1
      have HK := Lib.hid hK1
      clear hK1 q0 q1 q2 q3 q4 q5 q6 q7 q8 q9
      go_wp2_with fail
      refine (wire_Put w6.drew base u0 LB (S : Int) (O6.out.drewN 1) hb6 (by omega) (by omega)).mono ?_
      rintro y w7 ⟨v7, rfl, O7, G7, L7⟩
      have O7 := Lib.hid O7
      have hs7 := Nat.le_trans hWs G7.size
      have L7 := Lib.hid L7
      have G7 := Lib.hid G7
      go_wp2_with fail
      refine HK.out _ _ (stand_puts hWs (.inl rfl) G7.out) ?_
      clear HK
      refine mix_loudDk rfl (by kernel_rfl) rfl ?_
      intro K1 hK1
      have HK := Lib.hid hK1
      clear hK1
      have l7 := wputI_len (S : Int) (by omega)
      have hsx : (x.m.key.extract S x.m.key.size).size = x.m.key.size - S := by rw [ByteArray.size_extract]; omega
      have CT := Lib.hid (wire_Text w7 base v7 (LB ++ wputI (S : Int)) (x.m.key.extract S x.m.key.size) O7.out (Nat.le_trans hb6 hs7) (by rw [List.length_append]; omega))
      rw [ext_drop] at CT
      go_wp2_with fail
      refine CT.out.mono ?_
      clear CT
      rintro y w8 ⟨v8, rfl, O8, G8, L8⟩
      have O8 := Lib.hid O8
      have hs8 := Nat.le_trans hs7 G8.size
      have L8 := Lib.hid L8
      have G8 := Lib.hid G8
      go_wp2_with fail
      refine HK.out _ _ (stand_puts hs7 (by rcases L7.out with h | ⟨g, h, h'⟩; exact .inl h; exact .inr ⟨g, h, h'⟩) G8.out) ?_
      clear HK
      have hbw8 : Below base w6 w8 := by
        have e1 : Below base w6.drew w7 := Below.grown (Below.refl base w6.drew) G7.out hb6 (fun q hq => (O6.out.lt q hq).1)
        have e2 : Below base w7 w8 := Below.grown (Below.refl base w7) G8.out (Nat.le_trans hb6 hs7) (fun q hq => (O7.out.lt q hq).1)
        have e0 : Below base w6 w6.drew := below_drewN (Below.refl base w6) 1
        exact (e0.trans e1).trans e2
      have HRX8 := Lib.hid (HRX6.out.below hbw8)
      have l8 := wtext_lenP ((bs x.m.key).drop S) (by rw [List.length_drop, bs_length]; omega)
      have CR := Lib.hid (mut_Rest w8 base v8 ((LB ++ wputI (S : Int)) ++ wtext ((bs x.m.key).drop S)) x.m x.A x.n x.c O8.out (Nat.le_trans hb6 hs8) HRX8.out (mutI_of HID.out) (by rw [List.length_append, List.length_append]; omega))
      unfold mutC at CR
      have L78 := Lib.hid (lies_trans (Nat.le_trans hWs G7.out.size) L7.out L8.out)
      refine mix_loudDk rfl (by kernel_rfl) rfl ?_
      intro K1 hK1
      have HK := Lib.hid hK1
      clear hK1 hbw8
      go_wp2_with fail
      refine CR.out.mono ?_
      clear CR
      rintro y w9 ⟨v9, rfl, O9, G9, L9⟩
      have O9 := Lib.hid O9
      have hs9 := Nat.le_trans hs8 G9.size
      have L9 := Lib.hid L9
      have G9 := Lib.hid G9
      go_wp2_with fail
      refine HK.out _ _ (stand_puts hs8 (by rcases L78.out with h | ⟨g, h, h'⟩; exact .inl h; exact .inr ⟨g, h, h'⟩) G9.out) ?_
      clear HK
      refine mix_calmDk rfl rfl ?_
      go_big_quiet_step (fail)
      refine wpQuiet_nil ?_
      refine mix_endDk ?_
      have hGT : w6.grownBy w9 u0.ownBlock := grown_lies (grown_lies (grown_undrew G7.out) (by rcases L7.out with h | ⟨g, h, h'⟩; exact .inl h; exact .inr ⟨g, h, h'⟩) G8.out) (by rcases L78.out with h | ⟨g, h, h'⟩; exact .inl h; exact .inr ⟨g, h, h'⟩) G9.out
      have B9 := B6.grown hGT (fun e => hne.out e.symm)
      have d2 : w9.cell? ⟨gm, 2, none⟩ = some (.string x.m.key) := B9.cell 2
      have HGT := Lib.hid hGT
      clear hGT B6
      go_wp2_with fail
      go_roundw
      case rel => exact ⟨k + 1, by go_num, by omega, by rw [HF2.out], by
        have h9 := O9.out
        rw [HF.out, ← List.append_assoc, HLB.out]
        have e9 : wputI (S : Int) = wput S := wputI_nat S
        rw [e9] at h9
        simpa [List.append_assoc] using h9, grown_lies G6 L HGT.out, lies_trans G6.size L (lies_trans (Nat.le_trans hWs (Nat.le_trans G7.out.size G8.out.size)) (by rcases L78.out with h | ⟨g, h, h'⟩; exact .inl h; exact .inr ⟨g, h, h'⟩) L9.out)⟩
      case measure => simp [RowKit.intOf]; omega
    · have hkn : k = n := by omega
      subst hkn
      rw [List.take_of_length_le (by rw [HLL.out]; exact Nat.le_refl _)] at O
      go_wp2_with fail
      go_ret
      refine ⟨_, rfl, ?_, G, L⟩
      unfold pgPut
      rw [HLL.out, ← List.append_assoc, ← wputI_nat]
      exact O
end Go.Proofs.YthbhbechemnidaaDoor

namespace Go.Proofs.YthbhbechemnidaaDoor
open Go.RowKit Go.Sort

theorem cpR_step (X Y : List Nat) (i : Nat) (h1 : i < X.length) (h2 : i < Y.length) : cpR (X.drop i) (Y.drop i) = if X[i] = Y[i] then X[i] :: cpR (X.drop (i + 1)) (Y.drop (i + 1)) else [] := by
  rw [List.drop_eq_getElem_cons h1, List.drop_eq_getElem_cons h2]
  rfl
theorem cpR_end (X Y : List Nat) (i : Nat) (h : X.length ≤ i ∨ Y.length ≤ i) : cpR (X.drop i) (Y.drop i) = [] := by
  rcases h with h | h
  · rw [List.drop_eq_nil_of_le h]; rfl
  · rw [List.drop_eq_nil_of_le h]
    cases X.drop i <;> rfl

theorem bl_app (s E : ByteArray) : bl (s ++ E) = bl s ++ bl E := by unfold bl; simp [ByteArray.data_append]
def CellsAt (w : World) (g : Nat) (X : List Nat) : Prop := ∀ j r : Nat, X[j]? = some r → w.cell? ⟨g, j, none⟩ = some (.int .i32 (r : Int))
theorem CellsAt.below {w w' : World} {g : Nat} {X : List Nat} (h : CellsAt w g X) (b : Below w.heap.size w w') : CellsAt w' g X := fun j r hj => (b.cell (p := ⟨g, j, none⟩) (block_lt_of_cell (h j r hj))).trans (h j r hj)

set_option maxRecDepth 100000 in
set_option maxHeartbeats 4000000 in
theorem ref15_shared (a b : ByteArray) (hsa : a.size ≤ 1000000) (hsb : b.size ≤ 1000000) (w : World) :
    Calls Tryd.prog 96 #[.string a, .string b] w fun e w' => e = .returned (.int .i64 (sh a b)) ∧ Below w.heap.size w w' := by
  have hcv := conv_runes a (by omega)
  have hcv2 := conv_runes b (by omega)
  have hla := rest_length a 0
  have hlb := rest_length b 0
  have hxs : ∀ r ∈ rest a 0, r ≤ 2147483647 := fun r hr => rest_le a 0 r hr
  have hys : ∀ r ∈ rest b 0, r ≤ 2147483647 := fun r hr => rest_le b 0 r hr
  have hX : CellsAt (rnW a w) w.heap.size (rest a 0) := fun j r hj => rnW_cell a w j r hj
  have hY : CellsAt (rnW b (rnW a w)) (rnW a w).heap.size (rest b 0) := fun j r hj => rnW_cell b (rnW a w) j r hj
  have hX2 := hX.below (rnW_below b (rnW a w))
  have hB : Below w.heap.size w (rnW b (rnW a w)) := (rnW_below a w).trans ((rnW_below b (rnW a w)).mono (rnW_below a w).size)
  obtain ⟨S, hS⟩ : ∃ S, sh a b = S := ⟨_, rfl⟩
  have HS0 : Hid ((encs ((rest a 0).take 0)).length + (encs (cpR ((rest a 0).drop 0) ((rest b 0).drop 0))).length = S) := Lib.hid (by rw [← hS, List.take_zero, encs_nil, List.length_nil, Nat.zero_add, List.drop_zero, List.drop_zero]; rfl)
  rw [hS]
  clear hS hX
  go_enter Tryd.func96, Tryd.ntmps96
  go_wp2_with fail
  clear hcv hcv2
  generalize rnC b (rnW a w) = cb at *
  generalize rnW b (rnW a w) = W at *
  generalize rnC a w = ca at *
  generalize (rnW a w).heap.size = gb at *
  generalize rest a 0 = X at *
  generalize rest b 0 = Y at *
  obtain ⟨nX, hnX⟩ : ∃ n, X.length = n := ⟨_, rfl⟩
  obtain ⟨nY, hnY⟩ : ∃ n, Y.length = n := ⟨_, rfl⟩
  have hnx : nX ≤ 1000000 := by omega
  have hny : nY ≤ 1000000 := by omega
  rw [hnX, hnY]
  have HNX := Lib.hid hnX
  have HNY := Lib.hid hnY
  have HXS := Lib.hid hxs
  have HYS := Lib.hid hys
  clear hnX hnY hla hlb hxs hys
  go_loopw [7, 8] (fun v7 v8 wr => ∃ (i : Nat) (s : ByteArray), v7 = .string s ∧ v8 = .int .i64 i ∧ i ≤ nX ∧ i ≤ nY ∧ bl s = encs (X.take i) ∧ (encs (X.take i)).length + (encs (cpR (X.drop i) (Y.drop i))).length = S ∧ s.size ≤ 4 * i ∧ CellsAt wr w.heap.size X ∧ CellsAt wr gb Y ∧ Below w.heap.size w wr) (fun _ v8 _ => nX - (RowKit.intOf v8).toNat)
  case atStart => exact ⟨0, ⟨#[]⟩, rfl, rfl, Nat.zero_le _, Nat.zero_le _, rfl, HS0.out, Nat.le_refl _, hX2, hY, hB⟩
  case round =>
    clear HS0 hX2 hY hB
    obtain ⟨i, s, rfl, rfl, hi1, hi2, hbl, hsum, hss, hX, hY, hB⟩ := hrel
    have HBL := Lib.hid hbl
    have HSUM := Lib.hid hsum
    have HXC := Lib.hid hX
    have HYC := Lib.hid hY
    have hBd : Below w.heap.size w wr.drew := below_drewN hB 1
    clear hbl hsum hX hY
    by_cases h1 : i < nX
    · have hiX : i < X.length := by rw [HNX.out]; exact h1
      by_cases h2 : i < nY
      · have hiY : i < Y.length := by rw [HNY.out]; exact h2
        obtain ⟨x, hx⟩ : ∃ x, X[i] = x := ⟨_, rfl⟩
        obtain ⟨y, hy⟩ : ∃ y, Y[i] = y := ⟨_, rfl⟩
        have cx : wr.cell? ⟨w.heap.size, i, none⟩ = some (.int .i32 (x : Int)) := HXC.out i x (by rw [← hx]; exact List.getElem?_eq_getElem hiX)
        have cy : wr.cell? ⟨gb, i, none⟩ = some (.int .i32 (y : Int)) := HYC.out i y (by rw [← hy]; exact List.getElem?_eq_getElem hiY)
        have HST := Lib.hid (cpR_step X Y i hiX hiY)
        have hxm : x ≤ 2147483647 := HXS.out x (by rw [← hx]; exact List.getElem_mem _)
        by_cases hxy : x = y
        · subst hxy
          have HX1 := Lib.hid hx
          have HY1 := Lib.hid hy
          clear hx hy
          go_upto_region 4 with fail
          go_region
          obtain ⟨E, hE⟩ : ∃ E, Utf8.encode (x : Int) = E := ⟨_, rfl⟩
          have hEl : E.size ≤ 4 := by
            have := enc_length x
            unfold enc at this
            rw [bl_length, hE] at this
            exact this
          have HEB : Hid (bl E = enc x) := Lib.hid (by rw [← hE]; rfl)
          go_wp2_with fail
          go_roundw
          case rel =>
            have ht : encs (X.take (i + 1)) = encs (X.take i) ++ enc x := by
              rw [List.take_succ_eq_append_getElem hiX, encs_append, HX1.out]
              simp [encs]
            refine ⟨i + 1, s ++ E, rfl, by go_num, h1, h2, ?_, ?_, ?_, HXC.out, HYC.out, hBd⟩
            · rw [bl_app, HBL.out, HEB.out, ht]
            · have h9 := HSUM.out
              rw [HST.out, HX1.out, HY1.out, if_pos rfl, encs_cons, List.length_append] at h9
              rw [ht, List.length_append]
              omega
            · rw [ByteArray.size_append]
              omega
          case measure => simp [RowKit.intOf]; omega
        · have HE : Hid (s.size = S) := Lib.hid (by
            have h9 := HSUM.out
            rw [HST.out, hx, hy, if_neg hxy] at h9
            rw [← bl_length, HBL.out]
            simpa [encs] using h9)
          have hne : ((x : Int) == (y : Int)) = false := by simp; omega
          clear hx hy HST
          have hh := HE.out
          subst hh
          go_upto_region 4 with fail
          go_region
          go_wp2_with fail
          go_ret
          exact ⟨rfl, hBd⟩
      · have HE : Hid (s.size = S) := Lib.hid (by
          have h9 := HSUM.out
          rw [cpR_end X Y i (.inr (by rw [HNY.out]; omega))] at h9
          rw [← bl_length, HBL.out]
          simpa [encs] using h9)
        have hh := HE.out
        subst hh
        go_upto_region 4 with fail
        go_region
        go_wp2_with fail
        go_ret
        exact ⟨rfl, hBd⟩
    · have HE : Hid (s.size = S) := Lib.hid (by
        have h9 := HSUM.out
        rw [cpR_end X Y i (.inl (by rw [HNX.out]; omega))] at h9
        rw [← bl_length, HBL.out]
        simpa [encs] using h9)
      have hh := HE.out
      subst hh
      go_upto_region 4 with fail
      go_region
      go_wp2_with fail
      go_ret
      exact ⟨rfl, hBd⟩
end Go.Proofs.YthbhbechemnidaaDoor

namespace Go.Proofs.YthbhbechemnidaaDoor
open Go.RowKit Go.Sort

set_option maxRecDepth 100000 in
set_option maxHeartbeats 8000000 in
theorem ref15_Put (A : Option Addr) (n c : Nat) (M : List Mut) (w : World) (hr : RdM w A n M) (hi : ∀ m ∈ M, MutRt m) (hn : n ≤ 1000) :
    Calls Tryd.prog 54 #[.slice A n c] w (Fresh w (pgPut M)) := by
  have hll := hr.n_eq
  have HR := Lib.hid hr
  have HLL := Lib.hid hll
  have HI := Lib.hid hi
  have hl0 := wputI_len (n : Int) (by omega)
  clear hr hll hi
  go_enter Tryd.func54, Tryd.ntmps54
  go_wp2_with fail
  refine (ref03_Put (n : Int) w (by omega)).mono ?_
  rintro x w1 ⟨v1, rfl, O1, b1⟩
  have hB := b1
  clear b1
  go_wp2_with fail
  go_loopw [3, 4, 5, 6] (fun v3 v4 v5 _ wr => ∃ k : Nat, v5 = .int .i64 k ∧ k ≤ n ∧ v4 = .string (lastK (M.take k)) ∧ Own wr w.heap.size v3 (wputI (n : Int) ++ pgBody ⟨#[]⟩ (M.take k)) ∧ Below w.heap.size w wr) (fun _ _ v5 _ _ => n - (RowKit.intOf v5).toNat)
  case atStart => exact ⟨0, rfl, Nat.zero_le _, by rw [List.take_zero]; rfl, by simpa [pgBody] using O1, hB⟩
  case round =>
    clear O1 hB
    obtain ⟨k, rfl, hk, rfl, O, hB⟩ := hrel
    by_cases hkn : k < n
    · have hkT : k < M.length := by have := HLL.out; omega
      obtain ⟨x, b, off, hx, hA, hb, hc, hrx, hz, -⟩ := HR.out.at_ hkT
      subst hA
      have hid := HI.out M[k] (List.getElem_mem hkT)
      have hlv := lastv (fun m hm => HI.out m (List.mem_of_mem_take (i := k) hm))
      have hsl := body_len (M.take k) ⟨#[]⟩ valid_nil (Nat.zero_le _) (fun s hs => HI.out s (List.mem_of_mem_take hs))
      rw [List.length_take] at hsl
      have HF := body_take M k hkT
      have HF2 := last_take M k hkT
      rw [← hx] at hid HF HF2
      obtain ⟨last, hlast⟩ : ∃ q, lastK (M.take k) = q := ⟨_, rfl⟩
      rw [hlast] at HF hlv ⊢
      obtain ⟨S, hS⟩ : ∃ S, sh last x.m.key = S := ⟨_, rfl⟩
      have hSk := sh_right (a := last) (key_valid hid.2.1)
      have hks := key_size hid.2.1
      rw [hS] at HF hSk
      have HF := Lib.hid HF
      have HF2 := Lib.hid HF2
      obtain ⟨LB, hLB⟩ : ∃ q, wputI (n : Int) ++ pgBody ⟨#[]⟩ (M.take k) = q := ⟨_, rfl⟩
      have hll : LB.length ≤ 90000000000 := by rw [← hLB, List.length_append]; omega
      rw [hLB] at O
      have HLB := Lib.hid hLB
      have hmr := mrest_len x.m (mutI_of hid)
      have HRX := Lib.hid hrx
      have HID := Lib.hid hid
      have CS := ref15_shared last x.m.key (by have := hlv.2; omega) (by omega) wr
      rw [hS] at CS
      have CS := Lib.hid CS
      have HO := Lib.hid O
      clear hsl hx hrx hid hz hLB hlast hS hlv O
      have c2 : wr.cell? ⟨b, off + k * 10 + 2, none⟩ = some (.string x.m.key) := (hB.cell (p := ⟨b, off + k * 10 + 2, none⟩) hb).trans (hc 2 _ (by decide) rfl)
      go_upto_region 6 with fail
      go_wp2_with fail
      refine CS.out.mono ?_
      rintro y w6 ⟨rfl, b6⟩
      clear CS c2
      have O6 := Lib.hid (HO.out.below b6)
      replace hB := hB.trans (b6.mono hB.size)
      clear b6 HO
      have hw6 := hB.size
      have BD : Below w.heap.size w w6.drew := below_drewN hB 1
      go_upto_region 7 with fail
      have c2 : ∀ p : Kept (· < w.heap.size) w6.drew, p.v.cell? ⟨b, off + k * 10 + 2, none⟩ = some (.string x.m.key) := fun p => p.h.cell hb ((BD.cell (p := ⟨b, off + k * 10 + 2, none⟩) hb).trans (hc 2 _ (by decide) rfl))
      have HC := Lib.hid hc
      have HBD := Lib.hid BD
      have HBB := Lib.hid hb
      clear hc hB BD hb
      refine wp_region_mixDk (M := []) (· < w.heap.size) [0, 1, 4, 5, 6, 7, 8, 9, 10, 2, 3, 11, 12, 13] (by kernel_rfl) (by kernel_rfl) ?_
      iterate 9 (refine mix_calmDk rfl rfl ?_; go_big_quiet_step (fail); refine wpQuiet_nil ?_)
      clear c2
      have O6 := Lib.hid (O6.out.drewN 1)
      have hw6' : w.heap.size ≤ w6.drew.heap.size := HBD.out.size
      refine mix_loudDk rfl (by kernel_rfl) rfl ?_
      intro K1 hK1
      have HK := Lib.hid hK1
      clear hK1 
      go_wp2_with fail
      refine (ref03_Put (S : Int) w6.drew (by omega)).mono ?_
      rintro x w7 ⟨v7, rfl, ox, bx⟩
      have HS9 := Lib.hid (Stand.of_below (S := (· < w.heap.size)) bx)
      have O7 := Lib.hid (ox.base_le (base' := w.heap.size) hw6')
      have O6b := Lib.hid (O6.out.below bx)
      have HB7 := Lib.hid (HBD.out.trans (bx.mono hw6'))
      clear ox bx
      obtain ⟨A7, c7, rfl, _, R7⟩ := O7.out.reads
      have R7 := Lib.hid R7
      have hs7 := HB7.out.size
      have l7 := wputI_len (S : Int) (by omega)
      go_wp2_with fail
      refine HK.out _ _ (HS9.out) ?_
      clear HK
      clear HS9
      refine mix_loudDk rfl (by kernel_rfl) rfl ?_
      intro K1 hK1
      have HK := Lib.hid hK1
      clear hK1 
      go_wp2_with (at_builtin; go_must (refine append_bytes w7 rfl _ _ rfl w.heap.size _ LB rfl O6b.out A7 _ c7 (wputI (S : Int)) rfl R7.out (by omega) hs7 ?_); intro v8 w8 O8 G8 _)
      have HS9 := Lib.hid (stand_own (N := w.heap.size) O6b.out (Nat.le_refl _) G8)
      have HB8 := Lib.hid (Below.grown HB7.out G8 hs7 (fun q hq => (O6b.out.lt q hq).1))
      have O8 := Lib.hid O8
      clear G8 R7 O7 O6b
      have hs8 := HB8.out.size
      refine HK.out _ _ (HS9.out) ?_
      clear HK
      clear HS9
      have hsx : (x.m.key.extract S x.m.key.size).size = x.m.key.size - S := by rw [ByteArray.size_extract]; omega
      have CT := ref03_TextB (x.m.key.extract S x.m.key.size) w8 (by omega)
      rw [show bs (x.m.key.extract S x.m.key.size) = (bs x.m.key).drop S from ext_drop _ _] at CT
      have CT := Lib.hid CT
      refine mix_loudDk rfl (by kernel_rfl) rfl ?_
      intro K1 hK1
      have HK := Lib.hid hK1
      clear hK1 
      go_wp2_with fail
      refine (CT.out).mono ?_
      rintro x w9 ⟨v9, rfl, ox, bx⟩
      have HS9 := Lib.hid (Stand.of_below (S := (· < w.heap.size)) bx)
      have O9 := Lib.hid (ox.base_le (base' := w.heap.size) hs8)
      have O8b := Lib.hid (O8.out.below bx)
      have HB9 := Lib.hid (HB8.out.trans (bx.mono hs8))
      clear ox bx CT
      obtain ⟨A9, c9, rfl, _, R9⟩ := O9.out.reads
      have R9 := Lib.hid R9
      have hs9 := HB9.out.size
      have l9 := wtext_lenP ((bs x.m.key).drop S) (by rw [List.length_drop, bs_length]; omega)
      go_wp2_with fail
      refine HK.out _ _ (HS9.out) ?_
      clear HK
      clear HS9
      refine mix_loudDk rfl (by kernel_rfl) rfl ?_
      intro K1 hK1
      have HK := Lib.hid hK1
      clear hK1 
      go_wp2_with (at_builtin; go_must (refine append_bytes w9 rfl _ _ rfl w.heap.size _ (LB ++ wputI (S : Int)) rfl O8b.out A9 _ c9 (wtext ((bs x.m.key).drop S)) rfl R9.out (by rw [List.length_append]; omega) hs9 ?_); intro v10 w10 O10 G10 _)
      have HS9 := Lib.hid (stand_own (N := w.heap.size) O8b.out (Nat.le_refl _) G10)
      have HB10 := Lib.hid (Below.grown HB9.out G10 hs9 (fun q hq => (O8b.out.lt q hq).1))
      have O10 := Lib.hid O10
      clear G10 R9 O9 O8b
      have hs10 := HB10.out.size
      refine HK.out _ _ (HS9.out) ?_
      clear HK
      clear HS9
      refine mix_calmDk rfl rfl ?_
      go_big_quiet_step (fail)
      refine wpQuiet_nil ?_
      refine mix_endDk ?_
      have hb := HBB.out
      have hc := HC.out
      have c0 : w10.cell? ⟨b, off + k * 10, none⟩ = some (.int .i64 x.m.tab) := (HB10.out.cell (p := ⟨b, off + k * 10, none⟩) hb).trans (hc 0 _ (by decide) rfl)
      have c1 : w10.cell? ⟨b, off + k * 10 + 1, none⟩ = some (.int .i64 x.m.kind) := (HB10.out.cell (p := ⟨b, off + k * 10 + 1, none⟩) hb).trans (hc 1 _ (by decide) rfl)
      have c2 : w10.cell? ⟨b, off + k * 10 + 2, none⟩ = some (.string x.m.key) := (HB10.out.cell (p := ⟨b, off + k * 10 + 2, none⟩) hb).trans (hc 2 _ (by decide) rfl)
      have c3 : w10.cell? ⟨b, off + k * 10 + 3, none⟩ = some (.string x.m.en) := (HB10.out.cell (p := ⟨b, off + k * 10 + 3, none⟩) hb).trans (hc 3 _ (by decide) rfl)
      have c4 : w10.cell? ⟨b, off + k * 10 + 4, none⟩ = some (.string x.m.val) := (HB10.out.cell (p := ⟨b, off + k * 10 + 4, none⟩) hb).trans (hc 4 _ (by decide) rfl)
      have c5 : w10.cell? ⟨b, off + k * 10 + 5, none⟩ = some (.int .i64 x.m.exp) := (HB10.out.cell (p := ⟨b, off + k * 10 + 5, none⟩) hb).trans (hc 5 _ (by decide) rfl)
      have c6 : w10.cell? ⟨b, off + k * 10 + 6, none⟩ = some (.int .i64 x.m.at_.1) := (HB10.out.cell (p := ⟨b, off + k * 10 + 6, none⟩) hb).trans (hc 6 _ (by decide) rfl)
      have c7 : w10.cell? ⟨b, off + k * 10 + 7, none⟩ = some (.int .i64 x.m.at_.2.1) := (HB10.out.cell (p := ⟨b, off + k * 10 + 7, none⟩) hb).trans (hc 7 _ (by decide) rfl)
      have c8 : w10.cell? ⟨b, off + k * 10 + 8, none⟩ = some (.int .i64 x.m.at_.2.2) := (HB10.out.cell (p := ⟨b, off + k * 10 + 8, none⟩) hb).trans (hc 8 _ (by decide) rfl)
      have c9 : w10.cell? ⟨b, off + k * 10 + 9, none⟩ = some (.slice x.A x.n x.c) := (HB10.out.cell (p := ⟨b, off + k * 10 + 9, none⟩) hb).trans (hc 9 _ (by decide) rfl)
      have CR := Lib.hid (ref07_Rest x.m x.A x.n x.c w10 ((HRX.out.below HB10.out).more HB10.out.size) (mutI_of HID.out))
      unfold mutC at CR
      go_wp2_with fail
      refine CR.out.mono ?_
      rintro y w11 ⟨v11, rfl, ox, b11⟩
      clear CR c0 c1 c2 c3 c4 c5 c6 c7 c8 c9
      have O11 := ox.base_le (base' := w.heap.size) hs10
      have O10b := O10.out.below b11
      have HB11 := HB10.out.trans (b11.mono hs10)
      obtain ⟨A11, c11, rfl, _, R11⟩ := O11.reads
      have hs11 := HB11.size
      clear ox b11
      go_wp2_with (at_builtin; go_must (refine append_bytes w11 rfl _ _ rfl w.heap.size _ ((LB ++ wputI (S : Int)) ++ wtext ((bs x.m.key).drop S)) rfl O10b A11 _ c11 (mrest x.m) rfl R11 (by rw [List.length_append, List.length_append]; omega) hs11 ?_); intro v12 w12 O12 G12 _; (have HB12 := Below.grown HB11 G12 hs11 (fun q hq => (O10b.lt q hq).1)); (have c2 : w12.cell? ⟨b, off + k * 10 + 2, none⟩ = some (.string x.m.key) := (HB12.cell (p := ⟨b, off + k * 10 + 2, none⟩) hb).trans (hc 2 _ (by decide) rfl)))
      go_roundw
      case rel => exact ⟨k + 1, by go_num, by omega, by rw [HF2.out], by
        rw [HF.out, ← List.append_assoc, HLB.out]
        have e9 : wputI (S : Int) = wput S := wputI_nat S
        rw [e9] at O12
        simpa [List.append_assoc] using O12, HB12⟩
      case measure => simp [RowKit.intOf]; omega
    · have hkn : k = n := by omega
      subst hkn
      rw [List.take_of_length_le (by rw [HLL.out]; exact Nat.le_refl _)] at O
      go_wp2_with fail
      go_ret
      refine ⟨_, rfl, ?_, hB⟩
      unfold pgPut
      rw [HLL.out, ← wputI_nat]
      exact O
end Go.Proofs.YthbhbechemnidaaDoor
