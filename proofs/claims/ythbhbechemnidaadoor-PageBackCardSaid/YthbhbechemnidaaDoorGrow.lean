/- A slice of bytes that grows step by step beside a struct's block: what stays. No program's function is named here, and nothing is assumed. -/
import Derived.Test.YthbhbechemnidaaDoorWireB
import Derived.Test.YthbhbechemnidaaDoorVerB
import Derived.Test.YthbhbechemnidaaDoorRdr
namespace Go.Proofs.YthbhbechemnidaaDoor
open Go.RowKit Go.Sort

/-- From the world w and the slice v0 on: the slice v holds l, the block g (made after w) its cells; nothing else that was there has turned. -/
structure Grows (w : World) (base g : Nat) (t : TypeId) (cs : Array Value) (v0 v : Value) (l : List UInt8) (wr : World) : Prop where
  own : Own wr base v l
  gr : w.grownBy wr v0.ownBlock
  lies : Lies w v0 v
  ne : v.ownBlock ≠ some g
  blk : Blk wr g t cs
  le : w.heap.size ≤ g
  own0 : ∀ k, v0.ownBlock = some k → base ≤ k

section
variable {w wr w' : World} {base g : Nat} {t : TypeId} {cs : Array Value} {v0 v v' : Value} {l l' : List UInt8}
theorem Grows.start (h : Own w base v l) (cs : Array Value) (t : TypeId) : Grows w base w.heap.size t cs v v l (w.alloc (.cells cs t)) :=
  ⟨h.alloc _, grown_alloc (grown_refl w v.ownBlock) _, lies_refl _ _, fun e => by have := (h.lt _ e).2; omega, Blk.new _ _ _, Nat.le_refl _, fun k hk => (h.lt k hk).1⟩
theorem Grows.drew (h : Grows w base g t cs v0 v l wr) : Grows w base g t cs v0 v l wr.drew := ⟨h.own, ⟨h.gr.os, h.gr.tape, h.gr.output, h.gr.size, h.gr.block⟩, h.lies, h.ne, h.blk.drew, h.le, h.own0⟩
theorem Grows.alloc (h : Grows w base g t cs v0 v l wr) (o : Obj) : Grows w base g t cs v0 v l (wr.alloc o) := ⟨h.own.alloc o, grown_alloc h.gr o, h.lies, h.ne, h.blk.alloc o, h.le, h.own0⟩
theorem Grows.step (h : Grows w base g t cs v0 v l wr) (O : Own w' base v' l') (G : wr.grownBy w' v.ownBlock) (L : Lies wr v v') : Grows w base g t cs v0 v' l' w' :=
  ⟨O, grown_lies h.gr h.lies G, lies_trans h.gr.size h.lies L, by
    have hlt := h.blk.lt
    rcases L with e | ⟨q, e, hq⟩
    · rw [e]; exact h.ne
    · rw [e]
      intro h9
      injection h9 with h9
      omega, h.blk.grown G (Ne.symm h.ne), h.le, h.own0⟩
theorem Grows.below' (h : Grows w base g t cs v0 v l wr) (b : Below wr.heap.size wr w') : Grows w base g t cs v0 v l w' :=
  ⟨h.own.below b, ⟨b.os.trans h.gr.os, b.tape.trans h.gr.tape, b.output.trans h.gr.output, Nat.le_trans h.gr.size b.size, fun k hk hne => (b.block k (Nat.lt_of_lt_of_le hk h.gr.size)).trans (h.gr.block k hk hne)⟩, h.lies, h.ne, h.blk.below b h.blk.lt, h.le, h.own0⟩
theorem Grows.stand (h : Grows w base g t cs v0 v l wr) (G : wr.grownBy w' v.ownBlock) : Stand (· = g) wr w' :=
  Stand.of_grown G fun k hk hs => by subst hs; exact h.ne hk
theorem Grows.below (h : Grows w base g t cs v0 v l wr) (hb : base ≤ w.heap.size) : Below base w wr :=
  ⟨h.gr.os, h.gr.tape, h.gr.output, h.gr.size, fun k hk => h.gr.block k (Nat.lt_of_lt_of_le hk hb) (fun e => by have := h.own0 k e.symm; omega)⟩
theorem Grows.base_lt (h : Grows w base g t cs v0 v l wr) (hb : base ≤ w.heap.size) : base ≤ wr.heap.size := Nat.le_trans hb h.gr.size
theorem Grows.puts (h : Grows w base g t cs v0 v l wr) : Puts w base v0 l (.returned v) wr := ⟨v, rfl, h.own, h.gr, h.lies⟩
end
end Go.Proofs.YthbhbechemnidaaDoor
