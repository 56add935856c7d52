/- Contract of the law's own alive. -/
import Derived.Test.YtfebncpfhdgkpaaHistD
import Derived.Test.YtfebncpfhdgkpaaOwnG
namespace Go.Proofs.Ytfebncpfhdgkpaa
open Go.RowKit Go.Sort

theorem wpList_load_row_g {P : Program} {ops : Array Oper} {rest : List Oper} {o : Oper} {a : Act} {w : World} {Q : Exit → Act → World → Prop} (hw : Region.wanted o (yielded ops a.tmps) = true) (ty : TypeId) (x : Operand) (ho : o.op = .load ty x)
    (g : Nat) (hx : a.eval x = .pointer (some ⟨g, 0, none⟩)) (t : TypeId) (cs : Array Value) (fr : Nat × Nat) (d : TypeDesc) (hg : w.heap[g]? = some (.cells cs t fr))
    (hu : P.underlying ty = some d) (hd : (match d with | .struct _ | .array _ _ => true | _ => false) = true) (hi : (P.info? ty).map (·.size) = some cs.size)
    (h : wpList P ops Q rest (a.put o.dst (.agg cs)) w) : wpList P ops Q (o :: rest) a w :=
  wpList_wanted hw fun _ hK => wp_load_row ty x ho g hx t cs fr d hg hu hd hi (hK _ _ h)

def h44 : List Int := cntH [0, 1, 5, 7]
theorem h44_len : h44.length = 24 := cntH_len _
theorem h44_line : lnF (smU h44 24) = [48, 58, 49, 32, 49, 58, 49, 32, 51, 58, 50] := by decide +kernel
theorem h44_sum : lenF h44 = 4 := by decide +kernel
theorem h44_share : shR (smU h44 24) 0 = 1 := by decide +kernel

set_option maxRecDepth 100000 in
set_option maxHeartbeats 2000000 in
theorem alive44 (w : World) : Calls Try.prog 16 #[] w fun e w' => e = .returned (.bool true) ∧ Below w.heap.size w w' := by
  have hO : (w.alloc (.cells #[.int .i64 0, .int .i64 1, .int .i64 5, .int .i64 7] 3)).ownsRow w.heap.size 3 1 (.slice (some ⟨w.heap.size, 0, none⟩) 4 4) 4 [.int .i64 0, .int .i64 1, .int .i64 5, .int .i64 7] :=
    World.ownsRow_lit w #[.int .i64 0, .int .i64 1, .int .i64 5, .int .i64 7] 4 (Nat.le_refl _) (by decide) rfl
  have hOf := hist_Of (some ⟨w.heap.size, 0, none⟩) 4 4 [0, 1, 5, 7] _ (Reads.of_own hO) (by omega)
  have hB := (Below.refl w.heap.size w).alloc (Nat.le_refl _) (.cells #[.int .i64 0, .int .i64 1, .int .i64 5, .int .i64 7] 3)
  rw [show cntH [0, 1, 5, 7] = h44 from rfl] at hOf
  have hsz := hv_size h44 h44_len
  have hZ : (#[.int .i64 0, .int .i64 0, .int .i64 0, .int .i64 0, .int .i64 0, .int .i64 0, .int .i64 0, .int .i64 0, .int .i64 0, .int .i64 0, .int .i64 0, .int .i64 0, .int .i64 0, .int .i64 0, .int .i64 0, .int .i64 0, .int .i64 0, .int .i64 0, .int .i64 0, .int .i64 0, .int .i64 0, .int .i64 0, .int .i64 0, .int .i64 0] : Array Value) = hv hz := rfl
  go_enter Try.func16, Try.ntmps16
  go_wp2_with fail
  refine hOf.mono ?_
  rintro e w1 ⟨rfl, b1⟩
  replace hB := hB.trans (b1.mono hB.size)
  have HLn := hist_Line h44 h44_len
  have HSh := hist_Share h44 h44_len h44_sum
  have HLe := hist_Len h44 h44_len
  simp only [h44_line] at HLn
  simp only [h44_share] at HSh
  simp only [h44_sum] at HLe
  have HLn := Lib.hid HLn
  have HSh := Lib.hid HSh
  have HLe := Lib.hid HLe
  have hw1 := hB.size
  have hs24 : (hv hz).size = (hv h44).size := by simp [hv, h44_len, hz]
  have hone := hv_one h44
  generalize hv h44 = cs at *
  clear hOf hO b1
  have B1 := Blk.new w1 29 (hv hz)
  go_wp2_with (first
    | (refine wpList_store_row rfl _ _ _ rfl w1.heap.size cs rfl rfl 29 (hv hz) B1 hsz hs24 hone ?_)
    | (refine wpList_load_row rfl _ _ rfl w1.heap.size rfl 29 cs (0, 0) _ (B1.setRow cs) Try.underlying29 rfl hsz ?_))
  replace hB := below_setRow (hB.alloc hw1 (.cells (hv hz) 29)) hw1 cs
  replace B1 := B1.setRow cs
  clear hZ
  generalize (w1.alloc (.cells (hv hz) 29)).setRow w1.heap.size cs = W at *
  generalize w1.heap.size = g at *
  refine (HLn.out _).mono ?_
  rintro e w2 ⟨rfl, b2⟩
  replace hB := hB.trans (b2.mono hB.size)
  replace B1 := B1.below b2 B1.lt
  clear b2
  go_wp2_with (refine wpList_load_row_g rfl _ _ rfl g rfl 29 cs (0, 0) _ B1 Try.underlying29 rfl hsz ?_)
  refine (HSh.out _).mono ?_
  rintro e w3 ⟨rfl, b3⟩
  replace hB := hB.trans (b3.mono hB.size)
  replace B1 := B1.below b3 B1.lt
  clear b3
  go_wp2_with (refine wpList_load_row_g rfl _ _ rfl g rfl 29 cs (0, 0) _ B1 Try.underlying29 rfl hsz ?_)
  refine (HLe.out _).mono ?_
  rintro e w4 ⟨rfl, b4⟩
  replace hB := hB.trans (b4.mono hB.size)
  go_wp2_with fail
  go_ret
  exact ⟨rfl, hB⟩
end Go.Proofs.Ytfebncpfhdgkpaa
