/- Contracts of wire.Reader's methods: Fail, Why, At, Left, Num. -/
import Derived.Test.YthbhbechemnidaaDoorWireB
import Derived.Test.YthbhbechemnidaaDoorPlainR
namespace Go.Proofs.YthbhbechemnidaaDoor
open Go.RowKit Go.Sort

/-- Block g is a reader of the bytes L, which lie below it; 'at' of them are read; why nothing more is. -/
structure Rd (w : World) (g : Nat) (A : Option Addr) (n c : Nat) (L : List UInt8) (k : Nat) (why : Int) : Prop where
  blk : Blk w g 103 #[.slice A n c, .int .i64 k, .int .i64 why]
  rds : Reads w g 1 A n (L.map vb)
  kn : k ≤ n
  nm : n ≤ 140737488355400
  nc : n ≤ c

section
variable {w w' : World} {g n c k : Nat} {A : Option Addr} {L : List UInt8} {why : Int}
theorem Rd.len (h : Rd w g A n c L k why) : L.length = n := h.rds.len
theorem Rd.below (h : Rd w g A n c L k why) (hb : Below w.heap.size w w') : Rd w' g A n c L k why :=
  ⟨h.blk.below hb h.blk.lt, h.rds.keep fun _ hp => hb.cell (Nat.lt_trans hp h.blk.lt), h.kn, h.nm, h.nc⟩
theorem Rd.grown {row : Option Nat} (h : Rd w g A n c L k why) (hb : w.grownBy w' row) (hr : ∀ q, row = some q → g < q) : Rd w' g A n c L k why :=
  ⟨h.blk.grown hb (fun e => by have := hr _ e.symm; omega), h.rds.keep fun p hp => World.cell?_of_block (hb.block p.block (Nat.lt_trans hp h.blk.lt) (fun e => by have := hr _ e.symm; omega)), h.kn, h.nm, h.nc⟩
theorem Rd.drewN (h : Rd w g A n c L k why) (m : Nat) : Rd (w.drewN m) g A n c L k why := ⟨h.blk.drewN m, h.rds.drewN m, h.kn, h.nm, h.nc⟩
theorem Rd.alloc (h : Rd w g A n c L k why) (o : Obj) : Rd (w.alloc o) g A n c L k why :=
  ⟨h.blk.alloc o, h.rds.alloc (Nat.le_of_lt h.blk.lt) o, h.kn, h.nm, h.nc⟩
theorem Rd.at_ (h : Rd w g A n c L k why) (k' : Nat) (hk : k' ≤ n) : Rd (w.setCell ⟨g, 1, none⟩ (.int .i64 k')) g A n c L k' why :=
  ⟨by simpa using h.blk.set_ 1 (.int .i64 k'), h.rds.setCell (Nat.le_refl _) _, hk, h.nm, h.nc⟩
theorem Rd.fail (h : Rd w g A n c L k why) (e : Int) : Rd (w.setCell ⟨g, 2, none⟩ (.int .i64 e)) g A n c L k e :=
  ⟨by simpa using h.blk.set_ 2 (.int .i64 e), h.rds.setCell (Nat.le_refl _) _, h.kn, h.nm, h.nc⟩
theorem only_set (w : World) (g i : Nat) (u : Value) : w.grownBy (w.setCell ⟨g, i, none⟩ u) (some g) :=
  ⟨rfl, rfl, rfl, by simp [World.setCell], fun k _ hne => Below.heap_setCell w _ u k (fun e => hne (by rw [e]))⟩
theorem grown_refl (w : World) (row : Option Nat) : w.grownBy w row := World.grownBy.refl w row
theorem grown_drewN (w : World) (m : Nat) (row : Option Nat) : w.grownBy (w.drewN m) row := ⟨rfl, rfl, rfl, Nat.le_refl _, fun _ _ _ => rfl⟩
theorem grown_trans' {a b c : World} {row : Option Nat} (h1 : a.grownBy b row) (h2 : b.grownBy c row) : a.grownBy c row :=
  ⟨h2.os.trans h1.os, h2.tape.trans h1.tape, h2.output.trans h1.output, Nat.le_trans h1.size h2.size, fun k hk hne => (h2.block k (Nat.lt_of_lt_of_le hk h1.size) hne).trans (h1.block k hk hne)⟩
end

/-- The reader at g goes on: 'k' bytes are read, and why nothing more is; nothing else that was there has turned. -/
def RdTo (w : World) (g : Nat) (A : Option Addr) (n c : Nat) (L : List UInt8) (v : Value) (k : Nat) (why : Int) (e : Ending) (w' : World) : Prop :=
  e = .returned v ∧ Rd w' g A n c L k why ∧ w.grownBy w' (some g)

set_option maxRecDepth 100000 in
theorem reader_Fail (w : World) (g : Nat) (A : Option Addr) (n c : Nat) (L : List UInt8) (k : Nat) (why e0 : Int) (h : Rd w g A n c L k why) :
    Calls Tryd.prog 92 #[.pointer (some ⟨g, 0, none⟩), .int .i64 e0] w fun e w' => e = .returned (.tuple #[]) ∧ w' = (if why = 0 then w.setCell ⟨g, 2, none⟩ (.int .i64 e0) else w) := by
  have hc := h.blk.cell
  have hf := h.blk.frozen 2
  by_cases hw : why = 0
  · subst hw
    go_enter Tryd.func92, Tryd.ntmps92
    go_wp2
    go_returns
    exact ⟨rfl, by simp⟩
  · have hb : (why == 0) = false := by simp [hw]
    go_enter Tryd.func92, Tryd.ntmps92
    go_wp2
    go_returns
    exact ⟨rfl, by simp⟩

theorem reader_Why (w : World) (g : Nat) (A : Option Addr) (n c : Nat) (L : List UInt8) (k : Nat) (why : Int) (h : Rd w g A n c L k why) :
    Calls Tryd.prog 44 #[.pointer (some ⟨g, 0, none⟩)] w fun e w' => e = .returned (.int .i64 why) ∧ w = w' := by
  have hc := h.blk.cell
  go_enter Tryd.func44, Tryd.ntmps44
  go_wp2
  go_ret
  exact ⟨rfl, rfl⟩

set_option maxRecDepth 100000 in
theorem reader_Left (w : World) (g : Nat) (A : Option Addr) (n c : Nat) (L : List UInt8) (k : Nat) (why : Int) (h : Rd w g A n c L k why) :
    Calls Tryd.prog 47 #[.pointer (some ⟨g, 0, none⟩)] w fun e w' => e = .returned (.int .i64 ((n - k : Nat) : Int)) ∧ ∃ m, w' = w.drewN m := by
  have hc : ∀ m i, (w.drewN m).cell? ⟨g, i, none⟩ = (#[.slice A n c, .int .i64 k, .int .i64 why] : Array Value)[i]? := fun m i => (h.drewN m).blk.cell i
  have hk := h.kn
  have hn := h.nm
  go_enter Tryd.func47, Tryd.ntmps47
  go_wp2
  go_quiet (fail)
  go_wp2
  go_ret
  exact ⟨ret_int (by omega), _, rfl⟩
end Go.Proofs.YthbhbechemnidaaDoor
