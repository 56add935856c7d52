/- Contract of page.Put: a page's bytes. -/
import Derived.Test.YthbhbechemnidaaDoorPagA
import Derived.Test.YthbhbechemnidaaDoorMutR
namespace Go.Proofs.YthbhbechemnidaaDoor
open Go.RowKit Go.Sort

theorem lastv {out : List Mut} (h : ∀ m ∈ out, MutRt m) : allRunes (lastK out) = true ∧ (lastK out).size ≤ 24 := by
  unfold lastK
  cases hg : out.getLast? with
  | none => exact ⟨valid_nil, Nat.zero_le _⟩
  | some p =>
    have hk := (h p (List.mem_of_getLast? hg)).2.1
    exact ⟨key_valid hk, key_size hk⟩
theorem grown_belowP {w a b : World} {row : Option Nat} (h : w.grownBy a row) (hb : Below a.heap.size a b) : w.grownBy b row :=
  ⟨hb.os.trans h.os, hb.tape.trans h.tape, hb.output.trans h.output, Nat.le_trans h.size hb.size, fun k hk hne => (hb.block k (Nat.lt_of_lt_of_le hk h.size)).trans (h.block k hk hne)⟩
theorem wtext_lenP (l : List UInt8) (h : l.length ≤ 24) : (wtext l).length ≤ 33 := by
  have := wput_length l.length (by omega)
  unfold wtext
  rw [List.length_append]
  omega
theorem body_len : ∀ (M : List Mut) (last : ByteArray), allRunes last = true → last.size ≤ 24 → (∀ m ∈ M, MutRt m) → (pgBody last M).length ≤ 30000100 * M.length
  | [], _, _, _, _ => Nat.zero_le _
  | m :: t, last, hv, hl, h => by
    have hm := h m (List.mem_cons_self ..)
    have hk := key_size hm.2.1
    have ih := body_len t m.key (key_valid hm.2.1) hk (fun x hx => h x (List.mem_cons_of_mem _ hx))
    have h1 := sh_left (b := m.key) hv
    have h2 := wput_length (sh last m.key) (by omega)
    have h3 := wtext_lenP ((bs m.key).drop (sh last m.key)) (by rw [List.length_drop, bs_length]; omega)
    have h4 := mrest_len m (mutI_of hm)
    show (wput (sh last m.key) ++ wtext ((bs m.key).drop (sh last m.key)) ++ mrest m ++ pgBody m.key t).length ≤ 30000100 * (t.length + 1)
    simp only [List.length_append]
    omega
theorem body_take (M : List Mut) (k : Nat) (hk : k < M.length) : pgBody ⟨#[]⟩ (M.take (k + 1)) = pgBody ⟨#[]⟩ (M.take k) ++ (wput (sh (lastK (M.take k)) M[k].key) ++ wtext ((bs M[k].key).drop (sh (lastK (M.take k)) M[k].key)) ++ mrest M[k]) := by
  rw [List.take_succ_eq_append_getElem hk, body_snoc0]
theorem last_take (M : List Mut) (k : Nat) (hk : k < M.length) : lastK (M.take (k + 1)) = M[k].key := by
  rw [List.take_succ_eq_append_getElem hk, lastK_snoc]
theorem ext_drop (s : ByteArray) (k : Nat) : (s.extract k s.size).data.toList = (bs s).drop k := by
  show bl _ = _
  rw [bl_extract, List.take_of_length_le (by rw [bl_length]; exact Nat.le_refl _)]
  rfl

set_option maxRecDepth 100000 in
set_option maxHeartbeats 8000000 in
theorem page_Put (w0 w : World) (base : Nat) (v : Value) (l : List UInt8) (A : Option Addr) (n c : Nat) (M : List Mut) (hown : Own w base v l) (hbase : base ≤ w.heap.size) (h0 : w0.heap.size ≤ base) (hb0 : Below w0.heap.size w0 w) (hr : RdM w0 A n M) (hi : ∀ m ∈ M, MutRt m) (hn : n ≤ 1000) (hlen : l.length ≤ 1000000) :
    Calls Tryd.prog 53 #[v, .slice A n c] w (Puts w base v (l ++ pgPut M)) := by
  have hll := hr.n_eq
  have HR := Lib.hid hr
  have HLL := Lib.hid hll
  have HI := Lib.hid hi
  have H0 := Lib.hid hb0
  have hl0 := wputI_len (n : Int) (by omega)
  have HV := Lib.hid (fun k (hk : v.ownBlock = some k) => (hown.lt k hk).1)
  have HO := Lib.hid hown
  clear hr hll hi hown hb0
  go_enter Tryd.func53, Tryd.ntmps53
  go_wp2_with fail
  refine (wire_Put w base v l (n : Int) HO.out hbase (by omega) (by omega)).mono ?_
  rintro x w1 ⟨v1, rfl, O1, G1, L1⟩
  clear HO
  go_wp2_with fail
  go_loopw [0, 5, 7, 8, 15] (fun u0 v5 _ _ v15 wr => ∃ k : Nat, v15 = .int .i64 k ∧ k ≤ n ∧ v5 = .string (lastK (M.take k)) ∧ Own wr base u0 ((l ++ wputI (n : Int)) ++ pgBody ⟨#[]⟩ (M.take k)) ∧ w.grownBy wr v.ownBlock ∧ Lies w v u0) (fun _ _ _ _ v15 _ => n - (RowKit.intOf v15).toNat)
  case atStart => exact ⟨0, rfl, Nat.zero_le _, by rw [List.take_zero]; rfl, by simpa [pgBody] using O1, G1, L1⟩
  case round =>
    clear O1 G1 L1
    obtain ⟨k, rfl, hk, rfl, O, G, L⟩ := hrel
    have hBb : Below base w wr := ⟨G.os, G.tape, G.output, G.size, fun q hq => G.block q (Nat.lt_of_lt_of_le hq hbase) (fun e => by have := HV.out q e.symm; omega)⟩
    have hB0 : Below w0.heap.size w0 wr := H0.out.trans (hBb.mono h0)
    have hbw : base ≤ wr.heap.size := Nat.le_trans hbase G.size
    by_cases hkn : k < n
    · have hkT : k < M.length := by have := HLL.out; omega
      obtain ⟨x, b, off, hx, hA, hb, hc, hrx, hz, -⟩ := HR.out.at_ hkT
      subst hA
      have hid := HI.out M[k] (List.getElem_mem hkT)
      have hlv := lastv (fun m hm => HI.out m (List.mem_of_mem_take (i := k) hm))
      have hsl := body_len (M.take k) ⟨#[]⟩ valid_nil (Nat.zero_le _) (fun s hs => HI.out s (List.mem_of_mem_take hs))
      rw [List.length_take] at hsl
      have HF := body_take M k hkT
      have HF2 := last_take M k hkT
      rw [← hx] at hid HF HF2
      obtain ⟨last, hlast⟩ : ∃ q, lastK (M.take k) = q := ⟨_, rfl⟩
      rw [hlast] at HF hlv ⊢
      obtain ⟨S, hS⟩ : ∃ S, sh last x.m.key = S := ⟨_, rfl⟩
      have hSk := sh_right (a := last) (key_valid hid.2.1)
      have hks := key_size hid.2.1
      rw [hS] at HF hSk
      have HF := Lib.hid HF
      have HF2 := Lib.hid HF2
      obtain ⟨LB, hLB⟩ : ∃ q, (l ++ wputI (n : Int)) ++ pgBody ⟨#[]⟩ (M.take k) = q := ⟨_, rfl⟩
      have hll : LB.length ≤ 90000000000 := by rw [← hLB, List.length_append, List.length_append]; omega
      rw [hLB] at O
      have HLB := Lib.hid hLB
      have HRX := Lib.hid (((hrx.below hB0).more h0).alloc hbw (.cells (mutC x.m (.slice x.A x.n x.c)) 35))
      have HID := Lib.hid hid
      have HSH := Lib.hid hS
      have HLV := Lib.hid hlv
      clear hsl hx hrx hid hz hLB hlast hS hlv
      have hc' : ∀ i u, i < 10 → (mutL x)[i]? = some u → wr.cell? ⟨b, off + k * 10 + i, none⟩ = some u := fun i u hi hu => (World.cell?_of_block (hB0.block b hb)).trans (hc i u hi hu)
      have c0 : wr.cell? ⟨b, off + k * 10, none⟩ = some (.int .i64 x.m.tab) := hc' 0 _ (by decide) rfl
      have c1 : wr.cell? ⟨b, off + k * 10 + 1, none⟩ = some (.int .i64 x.m.kind) := hc' 1 _ (by decide) rfl
      have c2 : wr.cell? ⟨b, off + k * 10 + 2, none⟩ = some (.string x.m.key) := hc' 2 _ (by decide) rfl
      have c3 : wr.cell? ⟨b, off + k * 10 + 3, none⟩ = some (.string x.m.en) := hc' 3 _ (by decide) rfl
      have c4 : wr.cell? ⟨b, off + k * 10 + 4, none⟩ = some (.string x.m.val) := hc' 4 _ (by decide) rfl
      have c5 : wr.cell? ⟨b, off + k * 10 + 5, none⟩ = some (.int .i64 x.m.exp) := hc' 5 _ (by decide) rfl
      have c6 : wr.cell? ⟨b, off + k * 10 + 6, none⟩ = some (.int .i64 x.m.at_.1) := hc' 6 _ (by decide) rfl
      have c7 : wr.cell? ⟨b, off + k * 10 + 7, none⟩ = some (.int .i64 x.m.at_.2.1) := hc' 7 _ (by decide) rfl
      have c8 : wr.cell? ⟨b, off + k * 10 + 8, none⟩ = some (.int .i64 x.m.at_.2.2) := hc' 8 _ (by decide) rfl
      have c9 : wr.cell? ⟨b, off + k * 10 + 9, none⟩ = some (.slice x.A x.n x.c) := hc' 9 _ (by decide) rfl
      clear hc hc'
      have BT := Blk.new wr 35 (mutC x.m (.slice x.A x.n x.c))
      have OA := O.alloc (.cells (mutC x.m (.slice x.A x.n x.c)) 35)
      have hgm : ∀ q, u0.ownBlock = some q → q < wr.heap.size := fun q hq => (O.lt q hq).2
      have GA := grown_alloc G (.cells (mutC x.m (.slice x.A x.n x.c)) 35)
      have hbA : base ≤ (wr.alloc (.cells (mutC x.m (.slice x.A x.n x.c)) 35)).heap.size := by rw [World.size_alloc]; omega
      have hsz1 : (wr.alloc (.cells (mutC x.m (.slice x.A x.n x.c)) 35)).heap.size = wr.heap.size + 1 := World.size_alloc _ _
      go_upto_region 6 with fail
      change Code.wp _ _ _ _ (wr.alloc (.cells (mutC x.m (.slice x.A x.n x.c)) 35))
      clear c0 c1 c2 c3 c4 c5 c6 c7 c8 c9
      generalize wr.alloc (.cells (mutC x.m (.slice x.A x.n x.c)) 35) = W1 at *
      obtain ⟨gm, hgmE⟩ : ∃ q, wr.heap.size = q := ⟨_, rfl⟩
      rw [hgmE] at BT hgm hsz1 ⊢
      have d2 : W1.cell? ⟨gm, 2, none⟩ = some (.string x.m.key) := BT.cell 2
      have CS := Lib.hid (page_shared last x.m.key HLV.out.1 (key_valid HID.out.2.1) (by have := HLV.out.2; omega) (by omega) W1)
      rw [HSH.out] at CS
      go_wp2_with fail
      refine CS.out.mono ?_
      rintro y w6 ⟨rfl, b6⟩
      clear CS d2
      have O6 := Lib.hid (OA.below b6)
      have G6 := grown_belowP GA b6
      have B6 := BT.below b6 BT.lt
      have hs6 := b6.size
      have HRX6 := Lib.hid (HRX.out.below (b6.mono hbA))
      have hb6 : base ≤ w6.heap.size := Nat.le_trans hbA hs6
      have hgl : gm < w6.heap.size := by omega
      have hne : Hid (u0.ownBlock ≠ some gm) := Lib.hid (fun e => by have := hgm _ e; omega)
      clear O OA GA G BT b6 HRX
      go_upto_region 7 with fail
      have q0 : ∀ p : Kept (Outer w6.heap.size u0) w6.drew, p.v.cell? ⟨gm, 0, none⟩ = some (.int .i64 x.m.tab) := fun p => p.h.cell ⟨hgl, hne.out⟩ (B6.drew.cell 0)
      have q1 : ∀ p : Kept (Outer w6.heap.size u0) w6.drew, p.v.cell? ⟨gm, 1, none⟩ = some (.int .i64 x.m.kind) := fun p => p.h.cell ⟨hgl, hne.out⟩ (B6.drew.cell 1)
      have q2 : ∀ p : Kept (Outer w6.heap.size u0) w6.drew, p.v.cell? ⟨gm, 2, none⟩ = some (.string x.m.key) := fun p => p.h.cell ⟨hgl, hne.out⟩ (B6.drew.cell 2)
      have q3 : ∀ p : Kept (Outer w6.heap.size u0) w6.drew, p.v.cell? ⟨gm, 3, none⟩ = some (.string x.m.en) := fun p => p.h.cell ⟨hgl, hne.out⟩ (B6.drew.cell 3)
      have q4 : ∀ p : Kept (Outer w6.heap.size u0) w6.drew, p.v.cell? ⟨gm, 4, none⟩ = some (.string x.m.val) := fun p => p.h.cell ⟨hgl, hne.out⟩ (B6.drew.cell 4)
      have q5 : ∀ p : Kept (Outer w6.heap.size u0) w6.drew, p.v.cell? ⟨gm, 5, none⟩ = some (.int .i64 x.m.exp) := fun p => p.h.cell ⟨hgl, hne.out⟩ (B6.drew.cell 5)
      have q6 : ∀ p : Kept (Outer w6.heap.size u0) w6.drew, p.v.cell? ⟨gm, 6, none⟩ = some (.int .i64 x.m.at_.1) := fun p => p.h.cell ⟨hgl, hne.out⟩ (B6.drew.cell 6)
      have q7 : ∀ p : Kept (Outer w6.heap.size u0) w6.drew, p.v.cell? ⟨gm, 7, none⟩ = some (.int .i64 x.m.at_.2.1) := fun p => p.h.cell ⟨hgl, hne.out⟩ (B6.drew.cell 7)
      have q8 : ∀ p : Kept (Outer w6.heap.size u0) w6.drew, p.v.cell? ⟨gm, 8, none⟩ = some (.int .i64 x.m.at_.2.2) := fun p => p.h.cell ⟨hgl, hne.out⟩ (B6.drew.cell 8)
      have q9 : ∀ p : Kept (Outer w6.heap.size u0) w6.drew, p.v.cell? ⟨gm, 9, none⟩ = some (.slice x.A x.n x.c) := fun p => p.h.cell ⟨hgl, hne.out⟩ (B6.drew.cell 9)
      refine wp_region_mixDk (M := []) (Outer w6.heap.size u0) [0, 1, 3, 4, 5, 6, 8, 2, 7, 9, 10] (by kernel_rfl) (by kernel_rfl) ?_
      iterate 7 (refine mix_calmDk rfl rfl ?_; go_big_quiet_step (fail); refine wpQuiet_nil ?_)
      have hWs : w6.heap.size ≤ w6.drew.heap.size := Nat.le_refl _
      refine mix_loudDk rfl (by kernel_rfl) rfl ?_
      intro K1 hK1
      have HK := Lib.hid hK1
      clear hK1 q0 q1 q2 q3 q4 q5 q6 q7 q8 q9
      go_wp2_with fail
      refine (wire_Put w6.drew base u0 LB (S : Int) (O6.out.drewN 1) hb6 (by omega) (by omega)).mono ?_
      rintro y w7 ⟨v7, rfl, O7, G7, L7⟩
      have O7 := Lib.hid O7
      have hs7 := Nat.le_trans hWs G7.size
      have L7 := Lib.hid L7
      have G7 := Lib.hid G7
      go_wp2_with fail
      refine HK.out _ _ (stand_puts hWs (.inl rfl) G7.out) ?_
      clear HK
      refine mix_loudDk rfl (by kernel_rfl) rfl ?_
      intro K1 hK1
      have HK := Lib.hid hK1
      clear hK1
      have l7 := wputI_len (S : Int) (by omega)
      have hsx : (x.m.key.extract S x.m.key.size).size = x.m.key.size - S := by rw [ByteArray.size_extract]; omega
      have CT := Lib.hid (wire_Text w7 base v7 (LB ++ wputI (S : Int)) (x.m.key.extract S x.m.key.size) O7.out (Nat.le_trans hb6 hs7) (by rw [List.length_append]; omega))
      rw [ext_drop] at CT
      go_wp2_with fail
      refine CT.out.mono ?_
      clear CT
      rintro y w8 ⟨v8, rfl, O8, G8, L8⟩
      have O8 := Lib.hid O8
      have hs8 := Nat.le_trans hs7 G8.size
      have L8 := Lib.hid L8
      have G8 := Lib.hid G8
      go_wp2_with fail
      refine HK.out _ _ (stand_puts hs7 (by rcases L7.out with h | ⟨g, h, h'⟩; exact .inl h; exact .inr ⟨g, h, h'⟩) G8.out) ?_
      clear HK
      have hbw8 : Below base w6 w8 := by
        have e1 : Below base w6.drew w7 := Below.grown (Below.refl base w6.drew) G7.out hb6 (fun q hq => (O6.out.lt q hq).1)
        have e2 : Below base w7 w8 := Below.grown (Below.refl base w7) G8.out (Nat.le_trans hb6 hs7) (fun q hq => (O7.out.lt q hq).1)
        have e0 : Below base w6 w6.drew := below_drewN (Below.refl base w6) 1
        exact (e0.trans e1).trans e2
      have HRX8 := Lib.hid (HRX6.out.below hbw8)
      have l8 := wtext_lenP ((bs x.m.key).drop S) (by rw [List.length_drop, bs_length]; omega)
      have CR := Lib.hid (mut_Rest w8 base v8 ((LB ++ wputI (S : Int)) ++ wtext ((bs x.m.key).drop S)) x.m x.A x.n x.c O8.out (Nat.le_trans hb6 hs8) HRX8.out (mutI_of HID.out) (by rw [List.length_append, List.length_append]; omega))
      unfold mutC at CR
      have L78 := Lib.hid (lies_trans (Nat.le_trans hWs G7.out.size) L7.out L8.out)
      refine mix_loudDk rfl (by kernel_rfl) rfl ?_
      intro K1 hK1
      have HK := Lib.hid hK1
      clear hK1 hbw8
      go_wp2_with fail
      refine CR.out.mono ?_
      clear CR
      rintro y w9 ⟨v9, rfl, O9, G9, L9⟩
      have O9 := Lib.hid O9
      have hs9 := Nat.le_trans hs8 G9.size
      have L9 := Lib.hid L9
      have G9 := Lib.hid G9
      go_wp2_with fail
      refine HK.out _ _ (stand_puts hs8 (by rcases L78.out with h | ⟨g, h, h'⟩; exact .inl h; exact .inr ⟨g, h, h'⟩) G9.out) ?_
      clear HK
      refine mix_calmDk rfl rfl ?_
      go_big_quiet_step (fail)
      refine wpQuiet_nil ?_
      refine mix_endDk ?_
      have hGT : w6.grownBy w9 u0.ownBlock := grown_lies (grown_lies (grown_undrew G7.out) (by rcases L7.out with h | ⟨g, h, h'⟩; exact .inl h; exact .inr ⟨g, h, h'⟩) G8.out) (by rcases L78.out with h | ⟨g, h, h'⟩; exact .inl h; exact .inr ⟨g, h, h'⟩) G9.out
      have B9 := B6.grown hGT (fun e => hne.out e.symm)
      have d2 : w9.cell? ⟨gm, 2, none⟩ = some (.string x.m.key) := B9.cell 2
      have HGT := Lib.hid hGT
      clear hGT B6
      go_wp2_with fail
      go_roundw
      case rel => exact ⟨k + 1, by go_num, by omega, by rw [HF2.out], by
        have h9 := O9.out
        rw [HF.out, ← List.append_assoc, HLB.out]
        have e9 : wputI (S : Int) = wput S := wputI_nat S
        rw [e9] at h9
        simpa [List.append_assoc] using h9, grown_lies G6 L HGT.out, lies_trans G6.size L (lies_trans (Nat.le_trans hWs (Nat.le_trans G7.out.size G8.out.size)) (by rcases L78.out with h | ⟨g, h, h'⟩; exact .inl h; exact .inr ⟨g, h, h'⟩) L9.out)⟩
      case measure => simp [RowKit.intOf]; omega
    · have hkn : k = n := by omega
      subst hkn
      rw [List.take_of_length_le (by rw [HLL.out]; exact Nat.le_refl _)] at O
      go_wp2_with fail
      go_ret
      refine ⟨_, rfl, ?_, G, L⟩
      unfold pgPut
      rw [HLL.out, ← List.append_assoc, ← wputI_nat]
      exact O
end Go.Proofs.YthbhbechemnidaaDoor
