/- Contracts of mem.walk and of a tree's From: an iterator over mutations from a key on. -/
import Derived.Test.YthbhbechemnidaaDoorMemP
import Derived.Test.YthbhbechemnidaaDoorRange
import Derived.Test.YthbhbechemnidaaDoorTail
import Derived.Shelf.Abstract
import Derived.Shelf.RegionOpen
import Derived.Laws.Cover1
import Derived.TacticsInMore
import Derived.LoopNIn
import Derived.LoopIn
namespace Go.Proofs.YthbhbechemnidaaDoor
open Go.RowKit Go.Sort Go.Shelf
attribute [local go_sem] Oper.semAt_some

theorem RoundIn.anyDepth {F : Fence} (hd : F.depth = none) {m m' : Nat} {P : Program} {l : Nat} {f : FuncId} {tmps : Array Value} {assign body : Code} {w : World} {R : Ending → World → Prop}
    (h : RoundIn F m P l f tmps assign body w R) : RoundIn F m' P l f tmps assign body w R := ⟨h.1, fun c cs _ => h.2 c cs (fun d h => by rw [hd] at h; cases h)⟩
theorem YieldAt.anyDepth {F : Fence} (hd : F.depth = none) {m : Nat} (m' : Nat) {P : Program} {l : Nat} {args : Array Value} {W : World} {R : Ending → World → Prop} (h : YieldAt F m P l args W R) : YieldAt F m' P l args W R := by
  obtain ⟨fn, tmps, assign, body, hy, hR⟩ := h
  exact ⟨fn, tmps, assign, body, hy, RoundIn.anyDepth hd hR⟩

/-- Is a mutation's key at or behind a key? -/
def geK (key : ByteArray) (m : Mut) : Bool := !(Op.bytesLess m.key.toList key.toList)
/-- What a tree's walk hands out from a key on. -/
def TT.from_ (key : ByteArray) : TT → List Mut
  | .nil => []
  | .node _ l e _ r => if geK key e.m = true then l.from_ key ++ e.m :: r.from_ key else r.from_ key
/-- A tree that can be read, in blocks below n0. -/
def TT.In (w : World) (n0 : Nat) : TT → Prop
  | .nil => True
  | .node g l e wt r => g < n0 ∧ Blk w g 114 (nodeC e wt l.ptr r.ptr) ∧ Reads w n0 3 e.A e.n (e.m.ov.flatMap sc) ∧ (e.n = e.m.ov.length ∧ e.n ≤ 1000000000 ∧ (e.A = none → e.c = 0)) ∧ l.In w n0 ∧ r.In w n0
theorem TT.In.below {w w' : World} {n0 : Nat} (b : Below n0 w w') : ∀ {t : TT}, t.In w n0 → t.In w' n0
  | .nil, _ => trivial
  | .node _ _ _ _ _, ⟨h1, h2, h3, h4, h5, h6⟩ => ⟨h1, h2.below b h1, h3.below b, h4, TT.In.below b h5, TT.In.below b h6⟩
theorem TT.In.of_lies {w : World} {lo : Nat} : ∀ {t : TT}, t.Lies w lo → t.In w w.heap.size
  | .nil, _ => trivial
  | .node _ _ _ _ _, ⟨_, h2, h3, h5, h6⟩ => ⟨h2.lt, h2, h3.rd, h3.2, TT.In.of_lies h5, TT.In.of_lies h6⟩

set_option maxRecDepth 100000 in
set_option maxHeartbeats 4000000 in
theorem mem_walk (key : ByteArray) (lp n0 lo B N : Nat) (J Jx : List MutS → World → Prop) (hJ : AbidesFrom B J)
    (hY : ∀ m pre x W, J pre W → OwnE W lo x → pre.length < N → YieldAt Fence.wide m Tryd.prog lp #[.agg (mutC x.m (.slice x.A x.n x.c))] W fun e W' =>
      (e = .returned (.bool true) ∧ J (pre ++ [x]) W' ∧ Below n0 W W') ∨ (e = .returned (.bool false) ∧ Jx (pre ++ [x]) W')) (t : TT) :
    ∀ (n : Nat) (pre : List MutS) (W : World), t.In W n0 → n0 ≤ W.heap.size → lo ≤ W.heap.size → J pre W → pre.length + (t.from_ key).length ≤ N →
      CallsIn Fence.wide n Tryd.prog 104 #[.pointer t.adr, .string key, .func (.yield lp) #[] #[]] W fun e W' =>
        (e = .returned (.bool true) ∧ ∃ xs : List MutS, xs.map (·.m) = t.from_ key ∧ J (pre ++ xs) W' ∧ Below n0 W W') ∨ (e = .returned (.bool false) ∧ ∃ xs : List MutS, xs.map (·.m) <+: t.from_ key ∧ Jx (pre ++ xs) W') := by
  induction t with
  | nil =>
    intro n pre W _ _ _ h0 _
    refine callsIn_of_wp Tryd.func104 rfl trivial ?_ rfl
    simp only [Tryd.ntmps104, List.size_toArray, List.length_cons, List.length_nil, Nat.reduceAdd, Nat.reduceSub, Array.replicate_succ, Array.replicate_zero, List.push_toArray, List.append_toArray, List.nil_append, List.cons_append, adr_nil]
    gi_wp2
    go_ret
    exact .inl ⟨rfl, [], rfl, by simpa using h0, Below.refl _ _⟩
  | node g tl x wt tr ihl ihr =>
    intro n pre W hT hn0 hlo h0 hN
    obtain ⟨hg, BK, hr, ⟨hnl, hn, hA⟩, hTl, hTr⟩ := hT
    have hnn : x.m.ov.length ≤ 1000000000 := by omega
    clear hnl
    have HJ := Lib.hid hJ
    have HY := Lib.hid hY
    have HIl := Lib.hid ihl
    have HIr := Lib.hid ihr
    have HTr := Lib.hid hTr
    have HTl := Lib.hid hTl
    have HR := Lib.hid hr
    have HA := Lib.hid hA
    have HN := Lib.hid hN
    clear hJ hY ihl ihr hTr hTl hr hA hN
    simp only [adr_node]
    obtain ⟨q, hq⟩ : ∃ q, Op.bytesLess x.m.key.toList key.toList = q := ⟨_, rfl⟩
    cases q with
    | true =>
      have hk : geK key x.m = false := by unfold geK; rw [hq]; rfl
      have c2 : W.cell? ⟨g, 2, none⟩ = some (.string x.m.key) := BK.cell 2
      have c12 : W.cell? ⟨g, 12, none⟩ = some (.pointer tr.adr) := BK.cell 12
      have hf : (TT.node g tl x wt tr).from_ key = tr.from_ key := by
        show (if geK key x.m = true then tl.from_ key ++ x.m :: tr.from_ key else tr.from_ key) = _
        rw [hk]
        rfl
      have HF := Lib.hid hf
      have HJ0 := Lib.hid h0
      clear hk hf h0 BK
      refine callsIn_of_wp Tryd.func104 rfl trivial ?_ rfl
      simp only [Tryd.ntmps104, List.size_toArray, List.length_cons, List.length_nil, Nat.reduceAdd, Nat.reduceSub, Array.replicate_succ, Array.replicate_zero, List.push_toArray, List.append_toArray, List.nil_append, List.cons_append]
      gi_wp2
      refine ⟨trivial, ?_⟩
      gi_wp2
      refine ⟨trivial, ?_⟩
      gi_wp2
      refine ⟨fun _ h => (by cases h), ?_⟩
      gi_wp2
      refine ⟨trivial, fun h => (by cases h), ?_⟩
      gi_at_call 104
      refine (HIr.out (n - 1) pre W HTr.out hn0 hlo HJ0.out (by have := HN.out; rw [HF.out] at this; exact this)).mono ?_
      have HFF := HF.out
      rintro e W1 (⟨rfl, xs, hx, hJ1, hb⟩ | ⟨rfl, xs, hx, hJ1⟩)
      · gi_wp2
        go_ret
        exact .inl ⟨rfl, xs, hx.trans HFF.symm, hJ1, hb⟩
      · gi_wp2
        go_ret
        exact .inr ⟨rfl, xs, by rw [HFF]; exact hx, hJ1⟩
    | false =>
      have hk : geK key x.m = true := by unfold geK; rw [hq]; rfl
      have c2 : W.cell? ⟨g, 2, none⟩ = some (.string x.m.key) := BK.cell 2
      have c11 : W.cell? ⟨g, 11, none⟩ = some (.pointer tl.adr) := BK.cell 11
      have hf : (TT.node g tl x wt tr).from_ key = tl.from_ key ++ x.m :: tr.from_ key := by
        show (if geK key x.m = true then tl.from_ key ++ x.m :: tr.from_ key else tr.from_ key) = _
        rw [hk]
        rfl
      have HF := Lib.hid hf
      have HJ0 := Lib.hid h0
      have HBK := Lib.hid BK
      clear hk hf h0 BK
      refine callsIn_of_wp Tryd.func104 rfl trivial ?_ rfl
      simp only [Tryd.ntmps104, List.size_toArray, List.length_cons, List.length_nil, Nat.reduceAdd, Nat.reduceSub, Array.replicate_succ, Array.replicate_zero, List.push_toArray, List.append_toArray, List.nil_append, List.cons_append]
      gi_wp2
      have HNN : pre.length + ((tl.from_ key).length + (1 + (tr.from_ key).length)) ≤ N := by
        have := HN.out
        rw [HF.out, List.length_append, List.length_cons] at this
        omega
      refine ⟨trivial, fun h => (by cases h), ?_⟩
      gi_at_call 104
      refine (HIl.out (n - 1) pre W HTl.out hn0 hlo HJ0.out (by omega)).mono ?_
      clear HIl c2 c11
      rintro e W1 (⟨rfl, xs, hx, hJ1, hb⟩ | ⟨rfl, xs, hx, hJ1⟩)
      · have BK1 := HBK.out.below hb hg
        have hl1 : xs.length = (tl.from_ key).length := by rw [← hx, List.length_map]
        have d0 : W1.cell? ⟨g, 0, none⟩ = some (.int .i64 x.m.tab) := BK1.cell 0
        have d1 : W1.cell? ⟨g, 1, none⟩ = some (.int .i64 x.m.kind) := BK1.cell 1
        have d2 : W1.cell? ⟨g, 2, none⟩ = some (.string x.m.key) := BK1.cell 2
        have d3 : W1.cell? ⟨g, 3, none⟩ = some (.string x.m.en) := BK1.cell 3
        have d4 : W1.cell? ⟨g, 4, none⟩ = some (.string x.m.val) := BK1.cell 4
        have d5 : W1.cell? ⟨g, 5, none⟩ = some (.int .i64 x.m.exp) := BK1.cell 5
        have d6 : W1.cell? ⟨g, 6, none⟩ = some (.int .i64 x.m.at_.1) := BK1.cell 6
        have d7 : W1.cell? ⟨g, 7, none⟩ = some (.int .i64 x.m.at_.2.1) := BK1.cell 7
        have d8 : W1.cell? ⟨g, 8, none⟩ = some (.int .i64 x.m.at_.2.2) := BK1.cell 8
        have d9 : W1.cell? ⟨g, 9, none⟩ = some (.slice x.A x.n x.c) := BK1.cell 9
        have CC := mut_Copy x.m x.A x.n x.c W1 ((HR.out.below hb).more (Nat.le_trans hn0 hb.size)) HA.out (by omega)
        unfold mutC at CC
        have HCC := Lib.hid CC
        have HX := Lib.hid hx
        have HJ1 := Lib.hid hJ1
        have HB := Lib.hid hb
        have HL1 := Lib.hid hl1
        have hs1 := hb.size
        clear BK1 CC hx hJ1 hb hl1
        gi_wp2
        refine ⟨trivial, fun h => (by cases h), ?_⟩
        gi_at_call 25
        refine (callsIn_wide.2 HCC.out).mono ?_
        unfold FreshM
        rintro e W2 ⟨v2, rfl, O2, b2⟩
        clear HCC d0 d1 d2 d3 d4 d5 d6 d7 d8 d9
        obtain ⟨A9, c9, rfl, -, hA9, -⟩ := own_form O2
        have hs2 := b2.size
        have hJ2 := HJ.out _ W1 W2 none HJ1.out (grown_of_below b2 _) (fun r h => by cases h)
        have hB2 := HB.out.trans (b2.mono (Nat.le_trans hn0 hs1))
        obtain ⟨fn, tmps, assign, body, hy, hR⟩ := HY.out (n - 1) (pre ++ xs) ⟨x.m, A9, x.m.ov.length, c9⟩ W2 hJ2 ⟨own_base O2 (Nat.le_trans hlo hs1), rfl, hnn, hA9⟩ (by rw [List.length_append, HL1.out]; omega)
        dsimp only at hy hR
        unfold mutC at hy
        unfold mutC
        gi_wp2
        refine ⟨fun h => (by cases h), ?_⟩
        refine hR.mono ?_
        clear hR hy
        have HB2 := Lib.hid hB2
        have hx2 : (xs ++ [(⟨x.m, A9, x.m.ov.length, c9⟩ : MutS)]).map (·.m) = tl.from_ key ++ [x.m] := by rw [List.map_append, HX.out]; rfl
        have HX2 := Lib.hid hx2
        have HF2 := Lib.hid (HF.out)
        clear hB2 hx2 O2 b2
        rintro e W3 (⟨rfl, hJ3, hb3⟩ | ⟨rfl, hJ3⟩)
        · rw [List.append_assoc] at hJ3
          have hB3 := HB2.out.trans hb3
          have c12 : W3.cell? ⟨g, 12, none⟩ = some (.pointer tr.adr) := (HBK.out.below hB3 hg).cell 12
          have HB3 := Lib.hid hB3
          have HJ3 := Lib.hid hJ3
          clear hB3 hb3 hJ3 hJ2
          gi_wp2
          refine ⟨trivial, fun h => (by cases h), ?_⟩
          gi_at_call 104
          refine (HIr.out (n - 1) _ W3 (HTr.out.below HB3.out) (Nat.le_trans hn0 HB3.out.size) (Nat.le_trans hlo HB3.out.size) HJ3.out (by simp only [List.length_append, List.length_cons, List.length_nil, HL1.out]; omega)).mono ?_
          rintro e W4 (⟨rfl, ys, hy, hJ4, hb4⟩ | ⟨rfl, ys, hy, hJ4⟩)
          · gi_wp2
            go_ret
            refine .inl ⟨rfl, (xs ++ [⟨x.m, A9, x.m.ov.length, c9⟩]) ++ ys, ?_, by rw [← List.append_assoc]; exact hJ4, HB3.out.trans hb4⟩
            rw [HF2.out, List.map_append, HX2.out, hy, List.append_assoc]
            rfl
          · gi_wp2
            go_ret
            refine .inr ⟨rfl, (xs ++ [⟨x.m, A9, x.m.ov.length, c9⟩]) ++ ys, ?_, by rw [← List.append_assoc]; exact hJ4⟩
            obtain ⟨z, hz⟩ := hy
            exact ⟨z, by rw [HF2.out, List.map_append, HX2.out, List.append_assoc, hz, List.append_assoc]; rfl⟩
        · gi_wp2
          go_ret
          refine .inr ⟨rfl, xs ++ [⟨x.m, A9, x.m.ov.length, c9⟩], ?_, by rw [← List.append_assoc]; exact hJ3⟩
          exact ⟨tr.from_ key, by rw [HF2.out, HX2.out, List.append_assoc]; rfl⟩
      · have HFF := HF.out
        gi_wp2
        go_ret
        refine .inr ⟨rfl, xs, ?_, hJ1⟩
        rw [HFF]
        exact hx.trans (List.prefix_append _ _)

/-- A tree's iterator hands out what stands from the key on, each a copy of its own. -/
theorem from_stops (n : Nat) (gt gk h lo n0 : Nat) (key : ByteArray) (t : TT) (k : Nat) (w : World) (hn0 : n0 ≤ w.heap.size) (bt : Blk w gt 24 #[.pointer (some ⟨h, 0, none⟩)]) (bk : Blk w gk 9 #[.string key])
    (hh : h < n0) (hb : Blk w h 27 #[.pointer t.adr, .int .i64 k]) (ht : t.In w n0) (hlo : lo ≤ w.heap.size) (hm : (t.from_ key).length ≤ 1000001) :
    SeqG n Tryd.prog 103 #[.pointer (some ⟨gt, 0, none⟩), .pointer (some ⟨gk, 0, none⟩)] (fun x : MutS => #[.agg (mutC x.m (.slice x.A x.n x.c))]) (fun x W => OwnE W lo x) (fun W W' => Below n0 W W') (fun xs => xs.map (·.m) = t.from_ key) (fun pre => pre.map (·.m) <+: t.from_ key) 1000001 w := fun lp J Jx W hW hJ hJx hY h0 => by
  have b1 := (bt.below hW bt.lt)
  have b2 := (bk.below hW bk.lt)
  have hW0 := hW.mono hn0
  have b3 := hb.below hW0 hh
  have hT := ht.below hW0
  have HW : ∀ (d : Nat) (os : Array Obj), _ := fun d os => mem_walk key lp n0 lo W.heap.size 1000001 J Jx hJ (fun m pre x W2 h1 h2 h3 => YieldAt.anyDepth rfl m (hY pre x W2 h1 h2 h3)) t (n - 1) [] (grow (redrawn W d) os) (hT.below ((below_regrown W d os).mono (Nat.le_trans hn0 hW.size))) (Nat.le_trans (Nat.le_trans hn0 hW.size) (below_regrown W d os).size) (Nat.le_trans (Nat.le_trans hlo hW.size) (below_regrown W d os).size) (hJ _ W _ none h0 (grown_of_below (below_regrown W d os) _) (fun r h => by cases h)) (by simpa using hm)
  have HWW := Lib.hid HW
  clear hW hJ hJx hY h0 HW hT ht hb bt bk
  refine (callsIn_wide (n := n)).2 ?_
  go_enter Tryd.func103, Tryd.ntmps103
  go_upto_region 0 with fail
  have q0 := cell_regrown (b1.cell 0 : W.cell? ⟨gt, 0, none⟩ = some (.pointer (some ⟨h, 0, none⟩)))
  have q1 := cell_regrown (b2.cell 0 : W.cell? ⟨gk, 0, none⟩ = some (.string key))
  have q2 := cell_regrown (b3.cell 0 : W.cell? ⟨h, 0, none⟩ = some (.pointer t.adr))
  clear b1 b2 b3
  refine wp_region_quiet_tail 6 (by kernel_rfl) (by kernel_rfl) ?_
  simp only [List.take_succ_cons, List.take_zero, List.drop_succ_cons, List.drop_zero]
  repeat (go_big_quiet_step (fail))
  refine wpQuiet_nil ?_
  rintro w1 ⟨⟨d, os⟩, rfl⟩
  clear q0 q1 q2
  dsimp only
  go_wp2_with fail
  refine ((callsIn_wide (n := n - 1)).1 (HWW.out d os)).mono ?_
  clear HWW
  rintro e W2 (⟨rfl, xs, hx, hj, -⟩ | ⟨rfl, xs, hx, hj⟩)
  · go_wp2_with fail
    go_end0
    exact ⟨⟨_, rfl⟩, .inl ⟨xs, hx, hj⟩⟩
  · go_wp2_with fail
    go_end0
    exact ⟨⟨_, rfl⟩, .inr ⟨xs, hx, hj⟩⟩
theorem tree_From (h : Nat) (key : ByteArray) (w : World) : Calls Tryd.prog 64 #[.pointer (some ⟨h, 0, none⟩), .string key] w fun e w' => e = .returned (.func (.func 103) #[] #[.pointer (some ⟨w.heap.size, 0, none⟩), .pointer (some ⟨w.heap.size + 1, 0, none⟩)]) ∧ w' = (w.alloc (.cells #[.pointer (some ⟨h, 0, none⟩)] 24)).alloc (.cells #[.string key] 9) := by
  go_enter Tryd.func64, Tryd.ntmps64
  go_wp2_with fail
  go_ret
  exact ⟨by simp, rfl⟩
end Go.Proofs.YthbhbechemnidaaDoor
