/- Contracts of mut.get, mut.With and mut.Get: the mutation that comes next. Contracts of mut.Get and mut.List: mutations read. -/
import Derived.Test.YthbhbechemnidaaDoorMutS
import Derived.Test.YthbhbechemnidaaDoorMutK
import Derived.Test.YthbhbechemnidaaDoorMutG
import Derived.Test.YthbhbechemnidaaDoorRdrN
import Derived.Test.YthbhbechemnidaaDoorRows1
import Derived.Test.YthbhbechemnidaaDoorMutM
namespace Go.Proofs.YthbhbechemnidaaDoor
open Go.RowKit Go.Sort

theorem rdNum (w : World) (g : Nat) (A : Option Addr) (n c : Nat) (L : List UInt8) (k : Nat) (why : Int) (h : Rd w g A n c L k why) :
    Calls Tryd.prog 89 #[.pointer (some ⟨g, 0, none⟩)] w (RdTo w g A n c L (.int .i64 (pNum L k why).1) (pNum L k why).2.1 (pNum L k why).2.2) := reader_Num w g A n c L k why h
theorem rdCnt (w : World) (g : Nat) (A : Option Addr) (n c : Nat) (L : List UInt8) (k : Nat) (why most : Int) (h : Rd w g A n c L k why) :
    Calls Tryd.prog 91 #[.pointer (some ⟨g, 0, none⟩), .int .i64 most] w (RdTo w g A n c L (.int .i64 (pCnt most L k why).1) (pCnt most L k why).2.1 (pCnt most L k why).2.2) := reader_Count w g A n c L k why most h
theorem rdTxt (w : World) (g : Nat) (A : Option Addr) (n c : Nat) (L : List UInt8) (k : Nat) (why most : Int) (h : Rd w g A n c L k why) :
    Calls Tryd.prog 88 #[.pointer (some ⟨g, 0, none⟩), .int .i64 most] w (RdTo w g A n c L (.string (tx (pTxt most L k why).1)) (pTxt most L k why).2.1 (pTxt most L k why).2.2) := reader_Text w g A n c L k why most h
theorem grown_newset {w a : World} {row : Option Nat} (h : w.grownBy a row) {q : Nat} (hq : w.heap.size ≤ q) (i : Nat) (u : Value) : w.grownBy (a.setCell ⟨q, i, none⟩ u) row :=
  ⟨h.os, h.tape, h.output, by have := h.size; simpa [World.setCell] using this, fun k hk hne => (Below.heap_setCell a _ u k (by show k ≠ q; omega)).trans (h.block k hk hne)⟩
theorem grown_below {w a b : World} {row : Option Nat} (h : w.grownBy a row) (hb : Below a.heap.size a b) : w.grownBy b row :=
  ⟨hb.os.trans h.os, hb.tape.trans h.tape, hb.output.trans h.output, Nat.le_trans h.size hb.size, fun k hk hne => (hb.block k (Nat.lt_of_lt_of_le hk h.size)).trans (h.block k hk hne)⟩
theorem grown_own {w a b : World} {row : Option Nat} {base size n : Nat} {e : TypeId} {v : Value} {xs : List Value} (h : w.grownBy a row) (hO : a.ownsRow base e size v n xs) (hb : w.heap.size ≤ base) (hg : a.grownBy b v.ownBlock) : w.grownBy b row :=
  ⟨hg.os.trans h.os, hg.tape.trans h.tape, hg.output.trans h.output, Nat.le_trans h.size hg.size, fun k hk hne => (hg.block k (Nat.lt_of_lt_of_le hk h.size) (fun e => by have := (World.ownsRow.lt hO k e.symm).1; omega)).trans (h.block k hk hne)⟩
theorem grown_drew {w a : World} {row : Option Nat} (h : w.grownBy a row) : w.grownBy a.drew row := ⟨h.os, h.tape, h.output, h.size, h.block⟩
theorem cell_grown {w w' : World} {row : Option Nat} (h : w.grownBy w' row) {p : Addr} {v : Value} (q : w.cell? p = some v) (hne : some p.block ≠ row) : w'.cell? p = some v :=
  (World.cell?_of_block (h.block p.block (block_lt_of_cell q) hne)).trans q
/-- The tables stand while a reader goes on. -/
theorem Tabs.rd {w w' : World} {g : Nat} {A : Option Addr} {n c : Nat} {L : List UInt8} {k : Nat} {y : Int} (h : Tabs w) (R : Rd w g A n c L k y) (G : w.grownBy w' (some g)) : Tabs w' := by
  have c0 : w.cell? ⟨g, 0, none⟩ = some (.slice A n c) := R.blk.cell 0
  have h1 := h.1 0 (by decide)
  have h2 := (h.2 0 (by decide)).1
  refine ⟨fun i hi => cell_grown G (h.1 i hi) (fun e => ?_), fun i hi => ⟨cell_grown G (h.2 i hi).1 (fun e => ?_), cell_grown G (h.2 i hi).2 (fun e => ?_)⟩⟩
  · injection e with e
    have e : 0 = g := e
    rw [← e] at c0
    have := c0.symm.trans h1
    simp at this
  · injection e with e
    have e : 1 = g := e
    rw [← e] at c0
    have := c0.symm.trans h2
    simp at this
  · injection e with e
    have e : 1 = g := e
    rw [← e] at c0
    have := c0.symm.trans h2
    simp at this

set_option maxRecDepth 100000 in
set_option maxHeartbeats 2000000 in
theorem mut_get (w : World) (g : Nat) (A : Option Addr) (n c : Nat) (L : List UInt8) (k : Nat) (y : Int) (hR : Rd w g A n c L k y) :
    Calls Tryd.prog 90 #[.pointer (some ⟨g, 0, none⟩)] w (RdTo w g A n c L (.agg #[.int .i64 (pSt L k y).1.1, .int .i64 (pSt L k y).1.2.1, .int .i64 (pSt L k y).1.2.2]) (pSt L k y).2.1 (pSt L k y).2.2) := by
  have hgl := hR.blk.lt
  have B0 := Blk.new w 32 #[.int .i64 0, .int .i64 0, .int .i64 0]
  have R := hR.alloc (.cells #[.int .i64 0, .int .i64 0, .int .i64 0] 32)
  have G : w.grownBy (w.alloc (.cells #[.int .i64 0, .int .i64 0, .int .i64 0] 32)) (some g) := ⟨rfl, rfl, rfl, by simp, fun k hk _ => Below.heap_alloc w _ k hk⟩
  clear hR
  go_enter Tryd.func90, Tryd.ntmps90
  go_wp2_with fail
  change Calls _ _ _ (w.alloc (.cells #[.int .i64 0, .int .i64 0, .int .i64 0] 32)) _
  generalize w.alloc (.cells #[.int .i64 0, .int .i64 0, .int .i64 0] 32) = W0 at *
  obtain ⟨a, k1, y1, e9⟩ : ∃ a k' y', pNum L k y = (a, k', y') := ⟨_, _, _, rfl⟩
  have C9 := Lib.hid (rdNum W0 g A n c L k y R)
  rw [e9] at C9
  have E_a := Lib.hid e9
  clear e9 R
  refine C9.out.mono ?_
  clear C9
  rintro x w1 ⟨rfl, R, g9⟩
  replace B0 := B0.grown g9 (by intro e; injection e with e; omega)
  replace G := grown_trans' G g9
  clear g9
  obtain ⟨b, k2, y2, e9⟩ : ∃ a k' y', pNum L k1 y1 = (a, k', y') := ⟨_, _, _, rfl⟩
  have C9 := Lib.hid (rdNum w1 g A n c L k1 y1 R)
  rw [e9] at C9
  have E_b := Lib.hid e9
  clear e9 R
  go_wp2_with fail
  refine C9.out.mono ?_
  clear C9
  rintro x w2 ⟨rfl, R, g9⟩
  replace B0 := B0.grown g9 (by intro e; injection e with e; omega)
  replace G := grown_trans' G g9
  clear g9
  obtain ⟨d, k3, y3, e9⟩ : ∃ a k' y', pNum L k2 y2 = (a, k', y') := ⟨_, _, _, rfl⟩
  have C9 := Lib.hid (rdNum w2 g A n c L k2 y2 R)
  rw [e9] at C9
  have E_d := Lib.hid e9
  clear e9 R
  go_wp2_with fail
  refine C9.out.mono ?_
  clear C9
  rintro x w3 ⟨rfl, R, g9⟩
  replace B0 := B0.grown g9 (by intro e; injection e with e; omega)
  replace G := grown_trans' G g9
  clear g9
  have f0 := B0.frozen
  have c0 : w3.cell? ⟨w.heap.size, 0, none⟩ = some (.int .i64 0) := B0.cell 0
  have c1 : w3.cell? ⟨w.heap.size, 1, none⟩ = some (.int .i64 0) := B0.cell 1
  have c2 : w3.cell? ⟨w.heap.size, 2, none⟩ = some (.int .i64 0) := B0.cell 2
  have HE := Lib.hid (pSt_eq E_a.out E_b.out E_d.out)
  have zz := (((B0.set_ 0 (.int .i64 a)).set_ 1 (.int .i64 b)).set_ 2 (.int .i64 d)).cell
  simp at zz
  go_wp2_with fail
  (try simp only [Exit.inBlock, Exit.then])
  refine bodyPost_ret (v := .agg #[.int .i64 a, .int .i64 b, .int .i64 d]) (by simp [results, Tryd.results90, go_sem, zz]) rfl ⟨by rw [HE.out], ?_, ?_⟩
  · rw [HE.out]
    exact R.grown (grown_trans' (grown_trans' (only_set w3 w.heap.size 0 (.int .i64 a)) (only_set _ w.heap.size 1 (.int .i64 b))) (only_set _ w.heap.size 2 (.int .i64 d))) (fun q hq => by injection hq with hq; omega)
  · exact grown_newset (grown_newset (grown_newset G (Nat.le_refl _) 0 _) (Nat.le_refl _) 1 _) (Nat.le_refl _) 2 _

/-- A mutation that was read, in memory of its own; the reader goes on. -/
def MutTo (w : World) (g : Nat) (A : Option Addr) (n c : Nat) (L : List UInt8) (m : Mut) (k : Nat) (y : Int) (e : Ending) (w' : World) : Prop :=
  ∃ v9, e = .returned (.agg (mutC m v9)) ∧ OwnSt w' w.heap.size v9 m.ov ∧ Rd w' g A n c L k y ∧ w.grownBy w' (some g)

theorem sc1_one (s : Int × Int × Int) : ∀ u ∈ sc s, u.oneCell' = true := by
  intro u hu
  simp only [sc, List.mem_cons, List.mem_nil_iff, or_false] at hu
  rcases hu with rfl | rfl | rfl <;> rfl
theorem OwnSt.lt' {w : World} {base : Nat} {v : Value} {S : List (Int × Int × Int)} (h : OwnSt w base v S) : ∀ k, v.ownBlock = some k → base ≤ k ∧ k < w.heap.size := World.ownsRow.lt h
theorem OwnSt.grown {w w' : World} {base : Nat} {v : Value} {T : List (Int × Int × Int)} {row : Option Nat} (h : OwnSt w base v T) (hg : w.grownBy w' row) (hr : ∀ q, row = some q → q < base) : OwnSt w' base v T :=
  World.ownsRow.kept h hg (by
    cases e : v.ownBlock with
    | none => exact .inl rfl
    | some k => exact .inr (fun e2 => by have := (h.lt' k e).1; have := hr k e2.symm; omega))
theorem OwnSt.own {w : World} {base : Nat} {v : Value} {T : List (Int × Int × Int)} (h : OwnSt w base v T) : w.ownsRow base 32 3 v T.length (T.flatMap sc) := h
def mq (tab kind : Int) (key en val : ByteArray) (ex : Int) (at_ : Int × Int × Int) (T : List (Int × Int × Int)) : Mut := ⟨tab, kind, key, en, val, ex, at_, T⟩
def WtRel (w : World) (g gx : Nat) (tab kind : Int) (key en val : ByteArray) (ex : Int) (at_ : Int × Int × Int) (A : Option Addr) (n c : Nat) (L : List UInt8) (m k3 : Nat) (y3 : Int) (vi : Value) (wr : World) : Prop :=
  ∃ (i k : Nat) (y : Int) (T : List (Int × Int × Int)) (x : Value), vi = .int .i64 i ∧ i ≤ m ∧ T.length = i ∧ Rd wr g A n c L k y ∧ Blk wr w.heap.size 35 #[.int .i64 0, .int .i64 0, .string ⟨#[]⟩, .string ⟨#[]⟩, .string ⟨#[]⟩, .int .i64 0, .int .i64 0, .int .i64 0, .int .i64 0, .slice none 0 0] ∧ Blk wr gx 35 (mutC (mq tab kind key en val ex at_ T) x) ∧ OwnSt wr (gx + 1) x T ∧ w.grownBy wr (some g) ∧
    pRep pSt m L k3 y3 = (T ++ (pRep pSt (m - i) L k y).1, (pRep pSt (m - i) L k y).2)
theorem wt_step {m i k k' : Nat} {y y' : Int} {L : List UInt8} {t : Int × Int × Int} (hi : i < m) (h : pSt L k y = (t, k', y')) : pRep pSt (m - i) L k y = (t :: (pRep pSt (m - (i + 1)) L k' y').1, (pRep pSt (m - (i + 1)) L k' y').2) := by
  have e : m - i = (m - (i + 1)) + 1 := by omega
  rw [e]
  show pThen pSt (fun a => pThen (pRep pSt (m - (i + 1))) fun l => pPure (a :: l)) L k y = _
  rw [pThen_eq h]
  rfl

set_option maxRecDepth 100000 in
set_option maxHeartbeats 8000000 in
theorem mut_With (w : World) (hT : Tabs w) (g : Nat) (A : Option Addr) (n c : Nat) (L : List UInt8) (k : Nat) (y : Int) (key : ByteArray) (hkey : key.size ≤ maxLen) (hR : Rd w g A n c L k y) :
    Calls Tryd.prog 46 #[.pointer (some ⟨g, 0, none⟩), .string key] w (MutTo w g A n c L (pWith key L k y).1 (pWith key L k y).2.1 (pWith key L k y).2.2) := by
  have hgl := hR.blk.lt
  have HLL := Lib.hid hR.len
  have HRW := Lib.hid hR
  have HTW := Lib.hid hT
  have B0 := Blk.new w 35 #[.int .i64 0, .int .i64 0, .string ⟨#[]⟩, .string ⟨#[]⟩, .string ⟨#[]⟩, .int .i64 0, .int .i64 0, .int .i64 0, .int .i64 0, .slice none 0 0]
  have R := hR.alloc (.cells #[.int .i64 0, .int .i64 0, .string ⟨#[]⟩, .string ⟨#[]⟩, .string ⟨#[]⟩, .int .i64 0, .int .i64 0, .int .i64 0, .int .i64 0, .slice none 0 0] 35)
  have G : w.grownBy (w.alloc (.cells #[.int .i64 0, .int .i64 0, .string ⟨#[]⟩, .string ⟨#[]⟩, .string ⟨#[]⟩, .int .i64 0, .int .i64 0, .int .i64 0, .int .i64 0, .slice none 0 0] 35)) (some g) := ⟨rfl, rfl, rfl, by simp, fun k hk _ => Below.heap_alloc w _ k hk⟩
  have hs0 : w.heap.size < (w.alloc (.cells #[.int .i64 0, .int .i64 0, .string ⟨#[]⟩, .string ⟨#[]⟩, .string ⟨#[]⟩, .int .i64 0, .int .i64 0, .int .i64 0, .int .i64 0, .slice none 0 0] 35)).heap.size := by simp
  clear hR hT
  go_enter Tryd.func46, Tryd.ntmps46
  go_wp2_with fail
  change Calls _ _ _ (w.alloc (.cells #[.int .i64 0, .int .i64 0, .string ⟨#[]⟩, .string ⟨#[]⟩, .string ⟨#[]⟩, .int .i64 0, .int .i64 0, .int .i64 0, .int .i64 0, .slice none 0 0] 35)) _
  generalize w.alloc (.cells #[.int .i64 0, .int .i64 0, .string ⟨#[]⟩, .string ⟨#[]⟩, .string ⟨#[]⟩, .int .i64 0, .int .i64 0, .int .i64 0, .int .i64 0, .slice none 0 0] 35) = W0 at *
  obtain ⟨tab, k1, y1, e9⟩ : ∃ a k' y', pNum L k y = (a, k', y') := ⟨_, _, _, rfl⟩
  have C9 := Lib.hid (rdNum W0 g A n c L k y R)
  rw [e9] at C9
  have E_tab := Lib.hid e9
  clear e9 R
  refine C9.out.mono ?_
  clear C9
  rintro x w1 ⟨rfl, R, g9⟩
  replace B0 := B0.grown g9 (by intro e; injection e with e; omega)
  replace G := grown_trans' G g9
  clear g9
  obtain ⟨kind, k2, y2, e9⟩ : ∃ a k' y', pNum L k1 y1 = (a, k', y') := ⟨_, _, _, rfl⟩
  have C9 := Lib.hid (rdNum w1 g A n c L k1 y1 R)
  rw [e9] at C9
  have E_kind := Lib.hid e9
  clear e9 R
  go_wp2_with fail
  refine C9.out.mono ?_
  clear C9
  rintro x w2 ⟨rfl, R, g9⟩
  replace B0 := B0.grown g9 (by intro e; injection e with e; omega)
  replace G := grown_trans' G g9
  clear g9
  have hs2 := B0.lt
  have BX := Blk.new w2 35 (mutC (mq tab kind key ⟨#[]⟩ ⟨#[]⟩ 0 (0, 0, 0) []) (.slice none 0 0))
  replace B0 := B0.alloc (.cells (mutC (mq tab kind key ⟨#[]⟩ ⟨#[]⟩ 0 (0, 0, 0) []) (.slice none 0 0)) 35)
  replace R := R.alloc (.cells (mutC (mq tab kind key ⟨#[]⟩ ⟨#[]⟩ 0 (0, 0, 0) []) (.slice none 0 0)) 35)
  replace G := grown_alloc G (.cells (mutC (mq tab kind key ⟨#[]⟩ ⟨#[]⟩ 0 (0, 0, 0) []) (.slice none 0 0)) 35)
  go_wp2_with fail
  change Calls _ _ _ (w2.alloc (.cells (mutC (mq tab kind key ⟨#[]⟩ ⟨#[]⟩ 0 (0, 0, 0) []) (.slice none 0 0)) 35)) _
  generalize w2.alloc (.cells (mutC (mq tab kind key ⟨#[]⟩ ⟨#[]⟩ 0 (0, 0, 0) []) (.slice none 0 0)) 35) = W2 at *
  generalize w2.heap.size = gx at *
  obtain ⟨en, k3, y3, e9⟩ : ∃ a k' y', pTxt 24 L k2 y2 = (a, k', y') := ⟨_, _, _, rfl⟩
  have C9 := Lib.hid (rdTxt W2 g A n c L k2 y2 24 R)
  rw [e9] at C9
  have E_en := Lib.hid e9
  clear e9 R
  refine C9.out.mono ?_
  clear C9
  rintro x w3 ⟨rfl, R, g9⟩
  replace B0 := B0.grown g9 (by intro e; injection e with e; omega)
  replace G := grown_trans' G g9
  replace BX := BX.grown g9 (by intro e; injection e with e; omega)
  clear g9
  obtain ⟨va, k4, y4, e9⟩ : ∃ a k' y', pTxt 64 L k3 y3 = (a, k', y') := ⟨_, _, _, rfl⟩
  have C9 := Lib.hid (rdTxt w3 g A n c L k3 y3 64 R)
  rw [e9] at C9
  have E_va := Lib.hid e9
  clear e9 R
  go_wp2_with fail
  refine C9.out.mono ?_
  clear C9
  rintro x w4 ⟨rfl, R, g9⟩
  replace B0 := B0.grown g9 (by intro e; injection e with e; omega)
  replace G := grown_trans' G g9
  replace BX := BX.grown g9 (by intro e; injection e with e; omega)
  clear g9
  have fX := BX.frozen
  have cX3 : w4.cell? ⟨gx, 3, none⟩ = some (.string ⟨#[]⟩) := BX.cell 3
  have cX4 : w4.cell? ⟨gx, 4, none⟩ = some (.string ⟨#[]⟩) := BX.cell 4
  go_wp2_with fail
  clear fX cX3 cX4
  have BX9 : Blk ((w4.setCell ⟨gx, 3, none⟩ (.string (tx en))).setCell ⟨gx, 4, none⟩ (.string (tx va))) gx 35 (mutC (mq tab kind key (tx en) (tx va) 0 (0, 0, 0) []) (.slice none 0 0)) := ((BX.set_ 3 (.string (tx en))).set_ 4 (.string (tx va)))
  replace B0 := ((B0.far (p := ⟨gx, 3, none⟩) (show w.heap.size ≠ gx by omega) (.string (tx en))).far (p := ⟨gx, 4, none⟩) (show w.heap.size ≠ gx by omega) (.string (tx va)))
  replace R := ((R.grown (only_set w4 gx 3 (.string (tx en))) (fun q hq => by injection hq with hq; omega)).grown (only_set (w4.setCell ⟨gx, 3, none⟩ (.string (tx en))) gx 4 (.string (tx va))) (fun q hq => by injection hq with hq; omega))
  replace G := (grown_newset (grown_newset G (show w.heap.size ≤ gx by omega) 3 (.string (tx en))) (show w.heap.size ≤ gx by omega) 4 (.string (tx va)))
  clear BX
  have BX := BX9
  clear BX9
  generalize ((w4.setCell ⟨gx, 3, none⟩ (.string (tx en))).setCell ⟨gx, 4, none⟩ (.string (tx va))) = W4 at *
  obtain ⟨ex, k5, y5, e9⟩ : ∃ a k' y', pNum L k4 y4 = (a, k', y') := ⟨_, _, _, rfl⟩
  have C9 := Lib.hid (rdNum W4 g A n c L k4 y4 R)
  rw [e9] at C9
  have E_ex := Lib.hid e9
  clear e9 R
  refine C9.out.mono ?_
  clear C9
  rintro x w5 ⟨rfl, R, g9⟩
  replace B0 := B0.grown g9 (by intro e; injection e with e; omega)
  replace G := grown_trans' G g9
  replace BX := BX.grown g9 (by intro e; injection e with e; omega)
  clear g9
  have fX := BX.frozen
  have cX5 : w5.cell? ⟨gx, 5, none⟩ = some (.int .i64 0) := BX.cell 5
  go_wp2_with fail
  clear fX cX5
  have BX9 : Blk (w5.setCell ⟨gx, 5, none⟩ (.int .i64 ex)) gx 35 (mutC (mq tab kind key (tx en) (tx va) ex (0, 0, 0) []) (.slice none 0 0)) := (BX.set_ 5 (.int .i64 ex))
  replace B0 := (B0.far (p := ⟨gx, 5, none⟩) (show w.heap.size ≠ gx by omega) (.int .i64 ex))
  replace R := (R.grown (only_set w5 gx 5 (.int .i64 ex)) (fun q hq => by injection hq with hq; omega))
  replace G := (grown_newset G (show w.heap.size ≤ gx by omega) 5 (.int .i64 ex))
  clear BX
  have BX := BX9
  clear BX9
  generalize (w5.setCell ⟨gx, 5, none⟩ (.int .i64 ex)) = W5 at *
  obtain ⟨at_, k6, y6, e9⟩ : ∃ a k' y', pSt L k5 y5 = (a, k', y') := ⟨_, _, _, rfl⟩
  have C9 := Lib.hid (mut_get W5 g A n c L k5 y5 R)
  rw [e9] at C9
  have E_at_ := Lib.hid e9
  clear e9 R
  refine C9.out.mono ?_
  clear C9
  rintro x w6 ⟨rfl, R, g9⟩
  replace B0 := B0.grown g9 (by intro e; injection e with e; omega)
  replace G := grown_trans' G g9
  replace BX := BX.grown g9 (by intro e; injection e with e; omega)
  clear g9
  have fX := BX.frozen
  have cX6 : w6.cell? ⟨gx, 6, none⟩ = some (.int .i64 0) := BX.cell 6
  have cX7 : w6.cell? ⟨gx, 7, none⟩ = some (.int .i64 0) := BX.cell 7
  have cX8 : w6.cell? ⟨gx, 8, none⟩ = some (.int .i64 0) := BX.cell 8
  go_wp2_with fail
  clear fX cX6 cX7 cX8
  have BX9 : Blk (((w6.setCell ⟨gx, 6, none⟩ (.int .i64 at_.1)).setCell ⟨gx, 7, none⟩ (.int .i64 at_.2.1)).setCell ⟨gx, 8, none⟩ (.int .i64 at_.2.2)) gx 35 (mutC (mq tab kind key (tx en) (tx va) ex at_ []) (.slice none 0 0)) := (((BX.set_ 6 (.int .i64 at_.1)).set_ 7 (.int .i64 at_.2.1)).set_ 8 (.int .i64 at_.2.2))
  replace B0 := (((B0.far (p := ⟨gx, 6, none⟩) (show w.heap.size ≠ gx by omega) (.int .i64 at_.1)).far (p := ⟨gx, 7, none⟩) (show w.heap.size ≠ gx by omega) (.int .i64 at_.2.1)).far (p := ⟨gx, 8, none⟩) (show w.heap.size ≠ gx by omega) (.int .i64 at_.2.2))
  replace R := (((R.grown (only_set w6 gx 6 (.int .i64 at_.1)) (fun q hq => by injection hq with hq; omega)).grown (only_set (w6.setCell ⟨gx, 6, none⟩ (.int .i64 at_.1)) gx 7 (.int .i64 at_.2.1)) (fun q hq => by injection hq with hq; omega)).grown (only_set ((w6.setCell ⟨gx, 6, none⟩ (.int .i64 at_.1)).setCell ⟨gx, 7, none⟩ (.int .i64 at_.2.1)) gx 8 (.int .i64 at_.2.2)) (fun q hq => by injection hq with hq; omega))
  replace G := (grown_newset (grown_newset (grown_newset G (show w.heap.size ≤ gx by omega) 6 (.int .i64 at_.1)) (show w.heap.size ≤ gx by omega) 7 (.int .i64 at_.2.1)) (show w.heap.size ≤ gx by omega) 8 (.int .i64 at_.2.2))
  clear BX
  have BX := BX9
  clear BX9
  generalize (((w6.setCell ⟨gx, 6, none⟩ (.int .i64 at_.1)).setCell ⟨gx, 7, none⟩ (.int .i64 at_.2.1)).setCell ⟨gx, 8, none⟩ (.int .i64 at_.2.2)) = W6 at *
  obtain ⟨cc, k7, y7, e9⟩ : ∃ a k' y', pCnt 24 L k6 y6 = (a, k', y') := ⟨_, _, _, rfl⟩
  have C9 := Lib.hid (rdCnt W6 g A n c L k6 y6 24 R)
  rw [e9] at C9
  have E_cc := Lib.hid e9
  clear e9 R
  refine C9.out.mono ?_
  clear C9
  rintro x w7 ⟨rfl, R, g9⟩
  replace B0 := B0.grown g9 (by intro e; injection e with e; omega)
  replace G := grown_trans' G g9
  replace BX := BX.grown g9 (by intro e; injection e with e; omega)
  clear g9
  have hcb := cnt_bounds 24 (by decide) L k6 y6
  rw [E_cc.out] at hcb
  obtain ⟨m, hm⟩ : ∃ m : Nat, cc = m := ⟨cc.toNat, by simp only [] at hcb; omega⟩
  subst hm
  simp only [] at hcb
  go_wp2_with fail
  go_loopw [26] (fun v26 wr => WtRel w g gx tab kind key (tx en) (tx va) ex at_ A n c L m k7 y7 v26 wr) (fun v26 _ => m - (RowKit.intOf v26).toNat)
  case atStart => exact ⟨0, k7, y7, [], _, rfl, Nat.zero_le _, rfl, R, B0, BX, World.ownsRow_nil _ _ _ _, G, by simp⟩
  case round =>
    clear R B0 BX G
    obtain ⟨i, kk, yy, T, xv, rfl, hi, hTl, R, B0, BX, hO, G, hcg⟩ := hrel
    have HO := Lib.hid hO
    have HTL := Lib.hid hTl
    have HCG := Lib.hid hcg
    clear hO hTl hcg
    by_cases him : i < m
    · obtain ⟨s, ks, ys, es⟩ : ∃ a k' y', pSt L kk yy = (a, k', y') := ⟨_, _, _, rfl⟩
      have HST := Lib.hid (wt_step him es)
      have C1 := Lib.hid (mut_get wr.drew g A n c L kk yy (R.drewN 1))
      rw [es] at C1
      clear es
      go_upto_region 7 with fail
      have q0 : ∀ p : Kept (· = gx) wr.drew, p.v.cell? ⟨gx, 9, none⟩ = some xv := fun p => p.h.cell rfl (BX.drew.cell 9)
      refine wp_region_mixTk (M := []) (· = gx) 6 [0, 1, 2, 3, 4, 5] (by kernel_rfl) (by kernel_rfl) ?_
      iterate 3 (refine mix_calmDk rfl rfl ?_; go_big_quiet_step (fail); refine wpQuiet_nil ?_)
      refine mix_loudDk rfl (by kernel_rfl) rfl ?_
      intro K1 hK1
      have HK := Lib.hid hK1
      clear hK1 q0
      go_wp2_with fail
      refine (C1.out).mono ?_
      rintro x u5 ⟨rfl, R5, g5⟩
      have HG5 := Lib.hid g5
      have HR5 := Lib.hid R5
      clear R5 g5
      go_wp2_with fail
      refine HK.out _ _ (Stand.of_grown HG5.out (fun k hk hs => by injection hk with hk; omega)) ?_
      clear HK
      have BX6 := BX.drew.grown HG5.out (by intro e; injection e with e; omega)
      have B06 := B0.drew.grown HG5.out (by intro e; injection e with e; omega)
      have G6 := grown_trans' (grown_drew G) HG5.out
      have HO6 := Lib.hid (OwnSt.grown (w := wr.drew) HO.out HG5.out (fun q hq => by injection hq with hq; omega))
      have hx6 := BX6.lt
      clear C1 HO HG5 BX B0 G
      refine mix_loudDk rfl (by kernel_rfl) rfl ?_
      intro K1 hK1
      have HK := Lib.hid hK1
      clear hK1 
      go_wp2_with fail
      refine HK.out _ _ ((Stand.refl _ _).alloc _) ?_
      clear HK
      refine mix_loudDk rfl (by kernel_rfl) rfl ?_
      intro K1 hK1
      have HK := Lib.hid hK1
      clear hK1 
      go_wp2_with (at_builtin; go_must (refine append_elem_a u5 #[.int .i64 s.1, .int .i64 s.2.1, .int .i64 s.2.2] (sc s) rfl 32 rfl _ _ 33 rfl (gx + 1) 32 (.agg #[.int .i64 0, .int .i64 0, .int .i64 0]) 3 24 Tryd.underlying33 info_stampM rfl (by decide) xv T.length (T.flatMap sc) rfl HO6.out rfl (sc1_one _) rfl (by have := HTL.out; unfold maxLen; omega) (by have := HTL.out; omega) hx6 ?_); intro x7 u7 O7 G7)
      have HG7 := Lib.hid G7
      have HO7 := Lib.hid O7
      clear O7 G7
      refine HK.out _ _ (Stand.of_grown HG7.out (fun k hk hs => by have := (HO6.out.lt' _ hk).1; omega)) ?_
      clear HK
      refine mix_endDk ?_
      have BX7 := (BX6.alloc (.cells #[.int .i64 s.1, .int .i64 s.2.1, .int .i64 s.2.2] 32)).grown HG7.out (fun e => by have := (HO6.out.lt' _ e.symm).1; omega)
      have B07 := (B06.alloc (.cells #[.int .i64 s.1, .int .i64 s.2.1, .int .i64 s.2.2] 32)).grown HG7.out (fun e => by have := (HO6.out.lt' _ e.symm).1; omega)
      have R7 := (HR5.out.alloc (.cells #[.int .i64 s.1, .int .i64 s.2.1, .int .i64 s.2.2] 32)).grown HG7.out (fun q hq => by have := (HO6.out.lt' _ hq).1; omega)
      have G7 := grown_own (grown_alloc G6 (.cells #[.int .i64 s.1, .int .i64 s.2.1, .int .i64 s.2.2] 32)) (World.ownsRow.alloc HO6.out (.cells #[.int .i64 s.1, .int .i64 s.2.1, .int .i64 s.2.2] 32)) (show w.heap.size ≤ gx + 1 by omega) HG7.out
      obtain ⟨A9, c9, rfl, -, -, -⟩ := own_form HO7.out
      have f7 := BX7.frozen
      have c7 : u7.cell? ⟨gx, 9, none⟩ = some xv := BX7.cell 9
      clear BX6 B06 HR5 HO6 HG7 hx6 G6
      go_wp2_with fail
      have hT1 : (T ++ [s]).length = T.length + 1 := by simp
      have hTf : T.flatMap sc ++ sc s = (T ++ [s]).flatMap sc := by simp
      have HO8 := Lib.hid (World.ownsRow.kept HO7.out (only_set u7 gx 9 (.slice A9 (T.length + 1) c9)) (.inr (fun e => by have := (World.ownsRow.lt HO7.out _ e).1; omega)))
      have BX8 : Blk (u7.setCell ⟨gx, 9, none⟩ (.slice A9 (T.length + 1) c9)) gx 35 (mutC (mq tab kind key (tx en) (tx va) ex at_ (T ++ [s])) (.slice A9 (T.length + 1) c9)) := BX7.set_ 9 _
      have B08 := B07.far (p := ⟨gx, 9, none⟩) (show w.heap.size ≠ gx by omega) (.slice A9 (T.length + 1) c9)
      have R8 := R7.grown (only_set u7 gx 9 (.slice A9 (T.length + 1) c9)) (fun q hq => by injection hq with hq; omega)
      have G8 := grown_newset G7 (show w.heap.size ≤ gx by omega) 9 (.slice A9 (T.length + 1) c9)
      have HO9 : Hid (OwnSt (u7.setCell ⟨gx, 9, none⟩ (.slice A9 (T.length + 1) c9)) (gx + 1) (.slice A9 (T.length + 1) c9) (T ++ [s])) := Lib.hid (by unfold OwnSt; rw [hT1, ← hTf]; exact HO8.out)
      have HC2 : Hid (pRep pSt m L k7 y7 = ((T ++ [s]) ++ (pRep pSt (m - (i + 1)) L ks ys).1, (pRep pSt (m - (i + 1)) L ks ys).2)) := Lib.hid (by rw [HCG.out, HST.out]; simp)
      clear BX7 B07 R7 G7 f7 c7 HO8 HO7 hT1 hTf HCG HST
      go_roundw
      case rel => exact ⟨i + 1, ks, ys, _, _, by go_num, by omega, by have := HTL.out; simp; omega, R8, B08, BX8, HO9.out, G8, HC2.out⟩
      case measure => simp [RowKit.intOf]; omega
    · have him2 : i = m := by omega
      subst him2
      have HREP : Hid (pRep pSt i L k7 y7 = (T, kk, yy)) := Lib.hid (by
        have h := HCG.out
        rw [Nat.sub_self] at h
        rw [h]
        show (T ++ [], kk, yy) = _
        rw [List.append_nil])
      clear HCG
      obtain ⟨A9, c9, rfl, hc9, -, -⟩ := own_form HO.out
      have HPB := Lib.hid (pBody_eq (key := key) E_tab.out E_kind.out E_en.out E_va.out E_ex.out E_at_.out E_cc.out (show pRep pSt ((i : Nat) : Int).toNat L k7 y7 = (T, kk, yy) by rw [Int.toNat_natCast]; exact HREP.out))
      obtain ⟨M, hM⟩ : ∃ M : Mut, mq tab kind key (tx en) (tx va) ex at_ T = M := ⟨_, rfl⟩
      have hPB2 : pBody key L k y = (M, kk, yy) := by rw [← hM]; exact HPB.out
      have hMov : M.ov = T := by rw [← hM]; rfl
      have hMk : M.key = key := by rw [← hM]; rfl
      rw [hM] at BX
      rw [← hMov] at BX HO
      have hMl : M.ov.length ≤ 24 := by rw [hMov, HTL.out]; omega
      have HML := Lib.hid hMl
      have HMK := Lib.hid hMk
      have HPB3 := Lib.hid hPB2
      have HWT := Lib.hid (pWith_eq hPB2)
      have HKN := Lib.hid HRW.out.kn
      clear HREP HPB hM hPB2 hMov hMk hMl E_tab E_kind E_en E_va E_ex E_at_ E_cc HTL
      go_wp2_with fail
      refine (reader_Why _ g A n c L kk yy R).mono ?_
      rintro x w9 ⟨rfl, rfl⟩
      by_cases hy : yy = 0
      case neg =>
        have hye : (yy == 0) = false := by simp [hy]
        have hyn : (yy != 0) = true := by simp [hy]
        have HX : Hid (pWith key L k y = (mutZ, kk, yy)) := Lib.hid (by
          rw [HWT.out]
          have e : mwWhy M yy = yy := by unfold mwWhy; rw [if_neg (fun h => hy h.1)]
          rw [e, if_neg hy])
        clear hy
        go_wp2_with fail
        refine (reader_Why _ g A n c L kk yy R).mono ?_
        rintro x w9 ⟨rfl, rfl⟩
        have f0 := B0.frozen
        have c0 := B0.cell
        have zz := ((((((((((B0.set_ 0 (.int .i64 0)).set_ 1 (.int .i64 0)).set_ 2 (.string ⟨#[]⟩)).set_ 3 (.string ⟨#[]⟩)).set_ 4 (.string ⟨#[]⟩)).set_ 5 (.int .i64 0)).set_ 6 (.int .i64 0)).set_ 7 (.int .i64 0)).set_ 8 (.int .i64 0)).set_ 9 (.slice none 0 0)).cell
        simp at zz
        go_wp2_with fail
        (try simp only [Exit.inBlock, Exit.then])
        refine bodyPost_ret (v := .agg (mutC mutZ (.slice none 0 0))) (by simp [results, Tryd.results46, go_sem, zz, mutC, mutZ]) rfl ⟨.slice none 0 0, by rw [HX.out], by rw [HX.out]; exact World.ownsRow_nil _ _ _ _, ?_, ?_⟩
        · rw [HX.out]
          exact ((((((((((R.grown (only_set _ w.heap.size 0 _) (fun q hq => by injection hq with hq; omega)).grown (only_set _ w.heap.size 1 _) (fun q hq => by injection hq with hq; omega)).grown (only_set _ w.heap.size 2 _) (fun q hq => by injection hq with hq; omega)).grown (only_set _ w.heap.size 3 _) (fun q hq => by injection hq with hq; omega)).grown (only_set _ w.heap.size 4 _) (fun q hq => by injection hq with hq; omega)).grown (only_set _ w.heap.size 5 _) (fun q hq => by injection hq with hq; omega)).grown (only_set _ w.heap.size 6 _) (fun q hq => by injection hq with hq; omega)).grown (only_set _ w.heap.size 7 _) (fun q hq => by injection hq with hq; omega)).grown (only_set _ w.heap.size 8 _) (fun q hq => by injection hq with hq; omega)).grown (only_set _ w.heap.size 9 _) (fun q hq => by injection hq with hq; omega))
        · exact (grown_newset (grown_newset (grown_newset (grown_newset (grown_newset (grown_newset (grown_newset (grown_newset (grown_newset (grown_newset G (Nat.le_refl _) 0 _) (Nat.le_refl _) 1 _) (Nat.le_refl _) 2 _) (Nat.le_refl _) 3 _) (Nat.le_refl _) 4 _) (Nat.le_refl _) 5 _) (Nat.le_refl _) 6 _) (Nat.le_refl _) 7 _) (Nat.le_refl _) 8 _) (Nat.le_refl _) 9 _)

      subst hy
      have HMN := Lib.hid ((sound_body key).use HPB3.out (by rw [HLL.out]; exact HKN.out) rfl).2.2.2
      obtain ⟨rb, hrb⟩ : ∃ r, mrtB M = r := ⟨_, rfl⟩
      have HRB := Lib.hid hrb
      have CR := Lib.hid (mut_Right M A9 M.ov.length c9 wr (HTW.out.rd HRW.out G) (Reads.of_own HO.out.own) (by have := HML.out; omega) (by rw [HMK.out]; exact hkey) (by have := HMN.out.en; unfold maxLen; omega) (by have := HMN.out.val; unfold maxLen; omega))
      rw [hrb] at CR
      clear hrb
      have d0 : wr.cell? ⟨gx, 0, none⟩ = some (.int .i64 M.tab) := BX.cell 0
      have d1 : wr.cell? ⟨gx, 1, none⟩ = some (.int .i64 M.kind) := BX.cell 1
      have d2 : wr.cell? ⟨gx, 2, none⟩ = some (.string M.key) := BX.cell 2
      have d3 : wr.cell? ⟨gx, 3, none⟩ = some (.string M.en) := BX.cell 3
      have d4 : wr.cell? ⟨gx, 4, none⟩ = some (.string M.val) := BX.cell 4
      have d5 : wr.cell? ⟨gx, 5, none⟩ = some (.int .i64 M.exp) := BX.cell 5
      have d6 : wr.cell? ⟨gx, 6, none⟩ = some (.int .i64 M.at_.1) := BX.cell 6
      have d7 : wr.cell? ⟨gx, 7, none⟩ = some (.int .i64 M.at_.2.1) := BX.cell 7
      have d8 : wr.cell? ⟨gx, 8, none⟩ = some (.int .i64 M.at_.2.2) := BX.cell 8
      have d9 : wr.cell? ⟨gx, 9, none⟩ = some (.slice A9 M.ov.length c9) := BX.cell 9
      go_wp2_with fail
      refine CR.out.mono ?_
      clear CR d0 d1 d2 d3 d4 d5 d6 d7 d8 d9
      rintro x u9 ⟨rfl, b9⟩
      replace B0 := B0.below b9 B0.lt
      replace BX := BX.below b9 BX.lt
      replace R := R.below b9
      replace G := grown_below G b9
      have HO9 : Hid (OwnSt u9 (gx + 1) (.slice A9 M.ov.length c9) M.ov) := Lib.hid (own_below HO.out b9)
      clear b9 HO
      cases rb
      case false =>
        have HX : Hid (pWith key L k y = (mutZ, kk, 70)) := Lib.hid (by
          rw [HWT.out]
          have e : mwWhy M 0 = 70 := by unfold mwWhy; rw [HRB.out]; simp
          rw [e]
          simp)
        go_wp2_with fail
        refine (reader_Fail _ g A n c L kk 0 70 R).mono ?_
        rintro x w11 ⟨rfl, rfl⟩
        rw [if_pos rfl]
        replace R := R.fail 70
        replace B0 := B0.far (p := ⟨g, 2, none⟩) (show w.heap.size ≠ g by omega) (.int .i64 70)
        replace G := grown_trans' G (only_set u9 g 2 (.int .i64 70))
        generalize u9.setCell ⟨g, 2, none⟩ (.int .i64 70) = V10 at *
        go_wp2_with fail
        refine (reader_Why _ g A n c L kk 70 R).mono ?_
        rintro x w9 ⟨rfl, rfl⟩
        have f0 := B0.frozen
        have c0 := B0.cell
        have zz := ((((((((((B0.set_ 0 (.int .i64 0)).set_ 1 (.int .i64 0)).set_ 2 (.string ⟨#[]⟩)).set_ 3 (.string ⟨#[]⟩)).set_ 4 (.string ⟨#[]⟩)).set_ 5 (.int .i64 0)).set_ 6 (.int .i64 0)).set_ 7 (.int .i64 0)).set_ 8 (.int .i64 0)).set_ 9 (.slice none 0 0)).cell
        simp at zz
        go_wp2_with fail
        (try simp only [Exit.inBlock, Exit.then])
        refine bodyPost_ret (v := .agg (mutC mutZ (.slice none 0 0))) (by simp [results, Tryd.results46, go_sem, zz, mutC, mutZ]) rfl ⟨.slice none 0 0, by rw [HX.out], by rw [HX.out]; exact World.ownsRow_nil _ _ _ _, ?_, ?_⟩
        · rw [HX.out]
          exact ((((((((((R.grown (only_set _ w.heap.size 0 _) (fun q hq => by injection hq with hq; omega)).grown (only_set _ w.heap.size 1 _) (fun q hq => by injection hq with hq; omega)).grown (only_set _ w.heap.size 2 _) (fun q hq => by injection hq with hq; omega)).grown (only_set _ w.heap.size 3 _) (fun q hq => by injection hq with hq; omega)).grown (only_set _ w.heap.size 4 _) (fun q hq => by injection hq with hq; omega)).grown (only_set _ w.heap.size 5 _) (fun q hq => by injection hq with hq; omega)).grown (only_set _ w.heap.size 6 _) (fun q hq => by injection hq with hq; omega)).grown (only_set _ w.heap.size 7 _) (fun q hq => by injection hq with hq; omega)).grown (only_set _ w.heap.size 8 _) (fun q hq => by injection hq with hq; omega)).grown (only_set _ w.heap.size 9 _) (fun q hq => by injection hq with hq; omega))
        · exact (grown_newset (grown_newset (grown_newset (grown_newset (grown_newset (grown_newset (grown_newset (grown_newset (grown_newset (grown_newset G (Nat.le_refl _) 0 _) (Nat.le_refl _) 1 _) (Nat.le_refl _) 2 _) (Nat.le_refl _) 3 _) (Nat.le_refl _) 4 _) (Nat.le_refl _) 5 _) (Nat.le_refl _) 6 _) (Nat.le_refl _) 7 _) (Nat.le_refl _) 8 _) (Nat.le_refl _) 9 _)

      have HX : Hid (pWith key L k y = (M, kk, 0)) := Lib.hid (by
        rw [HWT.out]
        have e : mwWhy M 0 = 0 := by unfold mwWhy; rw [HRB.out]; simp
        rw [e]
        simp)
      go_wp2_with fail
      refine (reader_Why _ g A n c L kk 0 R).mono ?_
      rintro x w9 ⟨rfl, rfl⟩
      have f0 := B0.frozen
      have c0 := B0.cell
      have d0 : u9.cell? ⟨gx, 0, none⟩ = some (.int .i64 M.tab) := BX.cell 0
      have d1 : u9.cell? ⟨gx, 1, none⟩ = some (.int .i64 M.kind) := BX.cell 1
      have d2 : u9.cell? ⟨gx, 2, none⟩ = some (.string M.key) := BX.cell 2
      have d3 : u9.cell? ⟨gx, 3, none⟩ = some (.string M.en) := BX.cell 3
      have d4 : u9.cell? ⟨gx, 4, none⟩ = some (.string M.val) := BX.cell 4
      have d5 : u9.cell? ⟨gx, 5, none⟩ = some (.int .i64 M.exp) := BX.cell 5
      have d6 : u9.cell? ⟨gx, 6, none⟩ = some (.int .i64 M.at_.1) := BX.cell 6
      have d7 : u9.cell? ⟨gx, 7, none⟩ = some (.int .i64 M.at_.2.1) := BX.cell 7
      have d8 : u9.cell? ⟨gx, 8, none⟩ = some (.int .i64 M.at_.2.2) := BX.cell 8
      have d9 : u9.cell? ⟨gx, 9, none⟩ = some (.slice A9 M.ov.length c9) := BX.cell 9
      have zz := ((((((((((B0.set_ 0 (.int .i64 M.tab)).set_ 1 (.int .i64 M.kind)).set_ 2 (.string M.key)).set_ 3 (.string M.en)).set_ 4 (.string M.val)).set_ 5 (.int .i64 M.exp)).set_ 6 (.int .i64 M.at_.1)).set_ 7 (.int .i64 M.at_.2.1)).set_ 8 (.int .i64 M.at_.2.2)).set_ 9 (.slice A9 M.ov.length c9)).cell
      simp at zz
      go_wp2_with fail
      (try simp only [Exit.inBlock, Exit.then])
      refine bodyPost_ret (v := .agg (mutC M (.slice A9 M.ov.length c9))) (by simp [results, Tryd.results46, go_sem, zz, mutC]) rfl ⟨.slice A9 M.ov.length c9, by rw [HX.out], ?_, ?_, ?_⟩
      · rw [HX.out]
        exact own_base (World.ownsRow.kept HO9.out (grown_trans' (grown_trans' (grown_trans' (grown_trans' (grown_trans' (grown_trans' (grown_trans' (grown_trans' (grown_trans' (only_set u9 w.heap.size 0 _) (only_set _ w.heap.size 1 _)) (only_set _ w.heap.size 2 _)) (only_set _ w.heap.size 3 _)) (only_set _ w.heap.size 4 _)) (only_set _ w.heap.size 5 _)) (only_set _ w.heap.size 6 _)) (only_set _ w.heap.size 7 _)) (only_set _ w.heap.size 8 _)) (only_set _ w.heap.size 9 _)) (.inr (fun e => by have := (World.ownsRow.lt HO9.out _ e).1; omega))) (by omega)
      · rw [HX.out]
        exact ((((((((((R.grown (only_set _ w.heap.size 0 _) (fun q hq => by injection hq with hq; omega)).grown (only_set _ w.heap.size 1 _) (fun q hq => by injection hq with hq; omega)).grown (only_set _ w.heap.size 2 _) (fun q hq => by injection hq with hq; omega)).grown (only_set _ w.heap.size 3 _) (fun q hq => by injection hq with hq; omega)).grown (only_set _ w.heap.size 4 _) (fun q hq => by injection hq with hq; omega)).grown (only_set _ w.heap.size 5 _) (fun q hq => by injection hq with hq; omega)).grown (only_set _ w.heap.size 6 _) (fun q hq => by injection hq with hq; omega)).grown (only_set _ w.heap.size 7 _) (fun q hq => by injection hq with hq; omega)).grown (only_set _ w.heap.size 8 _) (fun q hq => by injection hq with hq; omega)).grown (only_set _ w.heap.size 9 _) (fun q hq => by injection hq with hq; omega))
      · exact (grown_newset (grown_newset (grown_newset (grown_newset (grown_newset (grown_newset (grown_newset (grown_newset (grown_newset (grown_newset G (Nat.le_refl _) 0 _) (Nat.le_refl _) 1 _) (Nat.le_refl _) 2 _) (Nat.le_refl _) 3 _) (Nat.le_refl _) 4 _) (Nat.le_refl _) 5 _) (Nat.le_refl _) 6 _) (Nat.le_refl _) 7 _) (Nat.le_refl _) 8 _) (Nat.le_refl _) 9 _)
end Go.Proofs.YthbhbechemnidaaDoor

namespace Go.Proofs.YthbhbechemnidaaDoor
open Go.RowKit Go.Sort

theorem pWith_small (key : ByteArray) (L : List UInt8) (k : Nat) (y : Int) (hk : k ≤ L.length) : (pWith key L k y).1.ov.length ≤ 24 := by
  by_cases h0 : (pWith key L k y).2.2 = 0
  · have := (sound_with key L k y hk h0).2.2.2
    exact this.2.2.1.1
  · have h1 : ¬ mwWhy (pBody key L k y).1 (pBody key L k y).2.2 = 0 := h0
    show (if mwWhy (pBody key L k y).1 (pBody key L k y).2.2 = 0 then (pBody key L k y).1 else mutZ).ov.length ≤ 24
    rw [if_neg h1]
    exact Nat.zero_le _
theorem pGet_small (L : List UInt8) (k : Nat) (y : Int) (hk : k ≤ L.length) : (pGet L k y).1.ov.length ≤ 24 := pWith_small _ _ _ _ (going_txt 24 L k y hk).2
theorem pTxt_len (most : Int) (hm : 0 ≤ most) (L : List UInt8) (k : Nat) (y : Int) : (((pTxt most L k y).1.length : Nat) : Int) ≤ most := by
  unfold pTxt rText
  dsimp only
  split
  · simpa using hm
  · split
    · simpa using hm
    · split
      · simpa using hm
      · dsimp only
        rw [List.length_take]
        omega

set_option maxRecDepth 100000 in
set_option maxHeartbeats 4000000 in
theorem mut_Get (w : World) (hT : Tabs w) (g : Nat) (A : Option Addr) (n c : Nat) (L : List UInt8) (k : Nat) (y : Int) (hR : Rd w g A n c L k y) :
    Calls Tryd.prog 43 #[.pointer (some ⟨g, 0, none⟩)] w (MutTo w g A n c L (pGet L k y).1 (pGet L k y).2.1 (pGet L k y).2.2) := by
  have hgl := hR.blk.lt
  have HRW := Lib.hid hR
  have HTW := Lib.hid hT
  have B0 := Blk.new w 35 #[.int .i64 0, .int .i64 0, .string ⟨#[]⟩, .string ⟨#[]⟩, .string ⟨#[]⟩, .int .i64 0, .int .i64 0, .int .i64 0, .int .i64 0, .slice none 0 0]
  have R := hR.alloc (.cells #[.int .i64 0, .int .i64 0, .string ⟨#[]⟩, .string ⟨#[]⟩, .string ⟨#[]⟩, .int .i64 0, .int .i64 0, .int .i64 0, .int .i64 0, .slice none 0 0] 35)
  have G : w.grownBy (w.alloc (.cells #[.int .i64 0, .int .i64 0, .string ⟨#[]⟩, .string ⟨#[]⟩, .string ⟨#[]⟩, .int .i64 0, .int .i64 0, .int .i64 0, .int .i64 0, .slice none 0 0] 35)) (some g) := ⟨rfl, rfl, rfl, by simp, fun k hk _ => Below.heap_alloc w _ k hk⟩
  clear hR hT
  go_enter Tryd.func43, Tryd.ntmps43
  go_wp2_with fail
  change Calls _ _ _ (w.alloc (.cells #[.int .i64 0, .int .i64 0, .string ⟨#[]⟩, .string ⟨#[]⟩, .string ⟨#[]⟩, .int .i64 0, .int .i64 0, .int .i64 0, .int .i64 0, .slice none 0 0] 35)) _
  generalize w.alloc (.cells #[.int .i64 0, .int .i64 0, .string ⟨#[]⟩, .string ⟨#[]⟩, .string ⟨#[]⟩, .int .i64 0, .int .i64 0, .int .i64 0, .int .i64 0, .slice none 0 0] 35) = W0 at *
  obtain ⟨key, k1, y1, e9⟩ : ∃ a k' y', pTxt 24 L k y = (a, k', y') := ⟨_, _, _, rfl⟩
  have hkl := pTxt_len 24 (by decide) L k y
  have C9 := Lib.hid (rdTxt W0 g A n c L k y 24 R)
  rw [e9] at C9 hkl
  have HE := Lib.hid (show pGet L k y = pWith (tx key) L k1 y1 by unfold pGet; rw [pThen_eq e9])
  simp only [] at hkl
  clear e9 R
  refine C9.out.mono ?_
  clear C9
  rintro x w1 ⟨rfl, R, g9⟩
  replace B0 := B0.grown g9 (by intro e; injection e with e; omega)
  replace G := grown_trans' G g9
  clear g9
  obtain ⟨M, k2, y2, e8⟩ : ∃ a k' y', pWith (tx key) L k1 y1 = (a, k', y') := ⟨_, _, _, rfl⟩
  have C8 := Lib.hid (mut_With w1 (HTW.out.rd HRW.out G) g A n c L k1 y1 (tx key) (by rw [tx_size]; unfold maxLen; omega) R)
  rw [e8] at C8
  have HG := Lib.hid (HE.out.trans e8)
  clear e8 HE hkl
  go_wp2_with fail
  refine C8.out.mono ?_
  clear C8
  rintro x w2 ⟨v9, rfl, O9, R, g9⟩
  have hs1 : w.heap.size < w1.heap.size := B0.lt
  replace B0 := B0.grown g9 (by intro e; injection e with e; omega)
  replace G := grown_trans' G g9
  clear g9
  obtain ⟨A9, c9, rfl, -, -, -⟩ := own_form O9
  have O := Lib.hid O9
  clear O9
  have f0 := B0.frozen
  have c0 := B0.cell
  have zz := ((((((((((B0.set_ 0 (.int .i64 M.tab)).set_ 1 (.int .i64 M.kind)).set_ 2 (.string M.key)).set_ 3 (.string M.en)).set_ 4 (.string M.val)).set_ 5 (.int .i64 M.exp)).set_ 6 (.int .i64 M.at_.1)).set_ 7 (.int .i64 M.at_.2.1)).set_ 8 (.int .i64 M.at_.2.2)).set_ 9 (.slice A9 M.ov.length c9)).cell
  simp at zz
  unfold mutC
  go_wp2_with fail
  (try simp only [Exit.inBlock, Exit.then])
  refine bodyPost_ret (v := .agg (mutC M (.slice A9 M.ov.length c9))) (by simp [results, Tryd.results43, go_sem, zz, mutC]) rfl ⟨.slice A9 M.ov.length c9, by rw [HG.out], ?_, ?_, ?_⟩
  · rw [HG.out]
    exact own_base (World.ownsRow.kept O.out (grown_trans' (grown_trans' (grown_trans' (grown_trans' (grown_trans' (grown_trans' (grown_trans' (grown_trans' (grown_trans' (only_set w2 w.heap.size 0 _) (only_set _ w.heap.size 1 _)) (only_set _ w.heap.size 2 _)) (only_set _ w.heap.size 3 _)) (only_set _ w.heap.size 4 _)) (only_set _ w.heap.size 5 _)) (only_set _ w.heap.size 6 _)) (only_set _ w.heap.size 7 _)) (only_set _ w.heap.size 8 _)) (only_set _ w.heap.size 9 _)) (.inr (fun e => by have := (World.ownsRow.lt O.out _ e).1; omega))) (by omega)
  · rw [HG.out]
    exact ((((((((((R.grown (only_set _ w.heap.size 0 _) (fun q hq => by injection hq with hq; omega)).grown (only_set _ w.heap.size 1 _) (fun q hq => by injection hq with hq; omega)).grown (only_set _ w.heap.size 2 _) (fun q hq => by injection hq with hq; omega)).grown (only_set _ w.heap.size 3 _) (fun q hq => by injection hq with hq; omega)).grown (only_set _ w.heap.size 4 _) (fun q hq => by injection hq with hq; omega)).grown (only_set _ w.heap.size 5 _) (fun q hq => by injection hq with hq; omega)).grown (only_set _ w.heap.size 6 _) (fun q hq => by injection hq with hq; omega)).grown (only_set _ w.heap.size 7 _) (fun q hq => by injection hq with hq; omega)).grown (only_set _ w.heap.size 8 _) (fun q hq => by injection hq with hq; omega)).grown (only_set _ w.heap.size 9 _) (fun q hq => by injection hq with hq; omega))
  · exact (grown_newset (grown_newset (grown_newset (grown_newset (grown_newset (grown_newset (grown_newset (grown_newset (grown_newset (grown_newset G (Nat.le_refl _) 0 _) (Nat.le_refl _) 1 _) (Nat.le_refl _) 2 _) (Nat.le_refl _) 3 _) (Nat.le_refl _) 4 _) (Nat.le_refl _) 5 _) (Nat.le_refl _) 6 _) (Nat.le_refl _) 7 _) (Nat.le_refl _) 8 _) (Nat.le_refl _) 9 _)

/-- What List hands back: the mutations, if there is no fault; the reader goes on. -/
def ListTo (w : World) (g : Nat) (A : Option Addr) (n c : Nat) (L : List UInt8) (M : List Mut) (k : Nat) (y : Int) (e : Ending) (w' : World) : Prop :=
  ∃ v9, e = .returned v9 ∧ OwnM w' w.heap.size w.heap.size v9 (if y = 0 then M else []) ∧ (∃ k', (y = 0 → k' = k) ∧ Rd w' g A n c L k' y) ∧ w.grownBy w' (some g)
def LsRel (w : World) (g : Nat) (A : Option Addr) (n c : Nat) (L : List UInt8) (m k1 : Nat) (y1 : Int) (v5 v9 : Value) (wr : World) : Prop :=
  ∃ (i k : Nat) (y : Int) (M : List Mut), v9 = .int .i64 i ∧ i ≤ m ∧ M.length = i ∧ Rd wr g A n c L k y ∧ OwnM wr w.heap.size w.heap.size v5 M ∧ w.grownBy wr (some g) ∧ ((y = 0 → i ≤ k) ∧ i ≤ k + 1) ∧
    pRep pGet m L k1 y1 = (M ++ (pRep pGet (m - i) L k y).1, (pRep pGet (m - i) L k y).2)
theorem ls_step {m i k k' : Nat} {y y' : Int} {L : List UInt8} {t : Mut} (hi : i < m) (h : pGet L k y = (t, k', y')) : pRep pGet (m - i) L k y = (t :: (pRep pGet (m - (i + 1)) L k' y').1, (pRep pGet (m - (i + 1)) L k' y').2) := by
  have e : m - i = (m - (i + 1)) + 1 := by omega
  rw [e]
  show pThen pGet (fun a => pThen (pRep pGet (m - (i + 1))) fun l => pPure (a :: l)) L k y = _
  rw [pThen_eq h]
  rfl

set_option maxRecDepth 100000 in
set_option maxHeartbeats 4000000 in
theorem mut_List (w : World) (hT : Tabs w) (g : Nat) (A : Option Addr) (n c : Nat) (L : List UInt8) (k : Nat) (y : Int) (most : Int) (hnb : n ≤ 100000000) (hR : Rd w g A n c L k y) :
    Calls Tryd.prog 48 #[.pointer (some ⟨g, 0, none⟩), .int .i64 most] w (ListTo w g A n c L (pList most L k y).1 (pList most L k y).2.1 (pList most L k y).2.2) := by
  have hgl := hR.blk.lt
  have HRW := Lib.hid hR
  have HTW := Lib.hid hT
  have HLL := Lib.hid hR.len
  obtain ⟨cc, k1, y1, e9⟩ : ∃ a k' y', pCnt most L k y = (a, k', y') := ⟨_, _, _, rfl⟩
  have C9 := Lib.hid (rdCnt w g A n c L k y most hR)
  have hcb : 0 ≤ cc := by
    unfold pCnt rCount at e9
    split at e9
    · simp only [Prod.mk.injEq] at e9
      obtain ⟨e, _⟩ := e9
      simp at e
      omega
    · simp only [Prod.mk.injEq] at e9
      obtain ⟨e, _⟩ := e9
      omega
  rw [e9] at C9
  obtain ⟨m, hm⟩ : ∃ m : Nat, cc = m := ⟨cc.toNat, by omega⟩
  subst hm
  have HE := Lib.hid (show pList most L k y = pRep pGet m L k1 y1 by unfold pList; rw [pThen_eq e9, Int.toNat_natCast])
  clear hR hT hcb e9
  go_enter Tryd.func48, Tryd.ntmps48
  go_wp2_with fail
  refine C9.out.mono ?_
  clear C9
  rintro x w1 ⟨rfl, R, G⟩
  go_wp2_with fail
  go_loopw [5, 9] (fun v5 v9 wr => LsRel w g A n c L m k1 y1 v5 v9 wr) (fun _ v9 _ => m - (RowKit.intOf v9).toNat)
  case atStart => exact ⟨0, k1, y1, [], rfl, Nat.zero_le _, rfl, R, OwnM.nil_ _ _ _, G, ⟨fun _ => Nat.zero_le _, Nat.zero_le _⟩, by simp⟩
  case round =>
    clear R G
    obtain ⟨i, kk, yy, M, rfl, hi, hMl, R, hO, G, hik, hcg⟩ := hrel
    have HIK := Lib.hid hik
    clear hik
    have HO := Lib.hid hO
    have HML := Lib.hid hMl
    have HCG := Lib.hid hcg
    clear hO hMl hcg
    by_cases him : i < m
    · go_wp2_with fail
      refine (reader_Why _ g A n c L kk yy R).mono ?_
      rintro x w9 ⟨rfl, rfl⟩
      by_cases hy : yy = 0
      case neg =>
        have hyn : (yy != 0) = true := by simp [hy]
        have HX : Hid ((pList most L k y).2.2 = yy) := Lib.hid (by
          rw [HE.out, HCG.out]
          exact stays_rep stays_get _ L kk yy hy)
        have HY := Lib.hid hy
        clear hy
        go_wp2_with fail
        go_ret
        refine ⟨_, rfl, ?_, ⟨kk, fun h => ?_, ?_⟩, G⟩
        · rw [HX.out, if_neg HY.out]
          exact OwnM.nil_ _ _ _
        · rw [HX.out] at h
          exact absurd h HY.out
        · rw [HX.out]
          exact R
      subst hy
      have hyn : ((0 : Int) != 0) = false := rfl
      obtain ⟨t, ks, ys, es⟩ : ∃ a k' y', pGet L kk 0 = (a, k', y') := ⟨_, _, _, rfl⟩
      have HST := Lib.hid (ls_step him es)
      have hkn := R.kn
      have hik := HIK.out.1 rfl
      have HK2 : Hid ((ys = 0 → i + 1 ≤ ks) ∧ i + 1 ≤ ks + 1) := Lib.hid (by
        have g1 := going_get.use es (by rw [HLL.out]; exact hkn)
        refine ⟨fun h0 => ?_, by omega⟩
        have h1 := sound_get.use es (by rw [HLL.out]; exact hkn) h0
        have h2 := congrArg List.length h1.2.1
        have h3 : 0 < (mput t).length := by unfold mput wtext wput; simp; omega
        rw [List.length_append, List.length_take, List.length_take] at h2
        omega)
      have C1 := Lib.hid (mut_Get wr (HTW.out.rd HRW.out G) g A n c L kk 0 R)
      have hsm := pGet_small L kk 0 (by rw [HLL.out]; exact R.kn)
      rw [es] at C1 hsm
      simp only [] at hsm
      have hwr := G.size
      clear es
      go_wp2_with fail
      refine C1.out.mono ?_
      clear C1
      rintro x w2 ⟨v9, rfl, O9, R, g9⟩
      have HO2 := Lib.hid (HO.out.grown_g g9 (by omega) (by omega))
      have HLT := Lib.hid (HO.out.lt)
      replace G := grown_trans' G g9
      have hs2 := g9.size
      clear g9 HO
      obtain ⟨A9, c9, rfl, -, hAc, -⟩ := own_form O9
      have O := Lib.hid O9
      have HAC := Lib.hid hAc
      clear O9 hAc
      have hbs : w.heap.size ≤ w2.heap.size := Nat.le_trans hwr hs2
      have hlen : M.length ≤ 1000000000 := by have := HML.out; omega
      have HNE : Hid (∀ ad, A9 = some ad → u5.ownBlock ≠ some ad.block) := Lib.hid (fun ad hA e => by
        have h1 := (HLT.out _ e).2
        have h2 := (World.ownsRow.lt O.out ad.block (by rw [hA]; rfl)).1
        omega)
      have HLO : Hid (∀ ad, A9 = some ad → w.heap.size ≤ ad.block ∧ ad.block < w2.heap.size) := Lib.hid (fun ad hA => by
        have h2 := World.ownsRow.lt O.out ad.block (by rw [hA]; rfl)
        omega)
      unfold mutC
      go_wp2_with (at_builtin; go_must (refine append_mut_u w2 t A9 t.ov.length c9 _ (by unfold mutC; simp) rfl _ _ rfl w.heap.size w.heap.size _ M rfl HO2.out (Reads.of_own O.out.own) HNE.out HLO.out ⟨by omega, HAC.out⟩ rfl hlen hbs ?_); intro v7 w7 O7 G7 _)
      have R7 := (R.alloc (.cells _ 35)).grown G7 (fun q hq => by have := (HO2.out.lt _ hq).1; omega)
      have G8 : w.grownBy w7 (some g) := by
        obtain ⟨L9, -, h1, -⟩ := HO2.out.row
        exact grown_own (grown_alloc G (.cells _ 35)) (World.ownsRow.alloc h1 _) (Nat.le_refl _) G7
      have HC2 : Hid (pRep pGet m L k1 y1 = ((M ++ [t]) ++ (pRep pGet (m - (i + 1)) L ks ys).1, (pRep pGet (m - (i + 1)) L ks ys).2)) := Lib.hid (by rw [HCG.out, HST.out]; simp)
      clear R G G7 HO2 O HCG HST
      go_roundw
      case rel => exact ⟨i + 1, ks, ys, _, by go_num, by omega, by have := HML.out; simp; omega, R7, O7, G8, HK2.out, HC2.out⟩
      case measure => simp [RowKit.intOf]; omega
    · have him2 : i = m := by omega
      subst him2
      have HREP : Hid (pList most L k y = (M, kk, yy)) := Lib.hid (by
        have h := HCG.out
        rw [Nat.sub_self] at h
        rw [HE.out, h]
        show (M ++ [], kk, yy) = _
        rw [List.append_nil])
      clear HCG
      go_wp2_with fail
      refine (reader_Why _ g A n c L kk yy R).mono ?_
      rintro x w9 ⟨rfl, rfl⟩
      by_cases hy : yy = 0
      case neg =>
        have hyn : (yy != 0) = true := by simp [hy]
        have HY := Lib.hid hy
        clear hy
        go_wp2_with fail
        go_ret
        refine ⟨_, rfl, ?_, ⟨kk, fun _ => ?_, ?_⟩, G⟩
        · rw [HREP.out, if_neg HY.out]
          exact OwnM.nil_ _ _ _
        · rw [HREP.out]
        · rw [HREP.out]
          exact R
      subst hy
      have hyn : ((0 : Int) != 0) = false := rfl
      go_wp2_with fail
      go_ret
      refine ⟨_, rfl, ?_, ⟨kk, fun _ => ?_, ?_⟩, G⟩
      · rw [HREP.out, if_pos rfl]
        exact HO.out
      · rw [HREP.out]
      · rw [HREP.out]
        exact R
end Go.Proofs.YthbhbechemnidaaDoor
