/- Contracts of Hist.Some: the iterator over the buckets that have some. -/
import Derived.Test.YtfebncpfhdgkpaaHistB
import Derived.Test.YtfebncpfhdgkpaaTail
import Derived.BigQuiet
import Derived.Test.YtfebncpfhdgkpaaNumsC0
import Derived.RangeFuncNested
import Derived.RangeFuncBound
import Derived.RangeFuncCalls
import Derived.RangeFuncLeaves
import Derived.Shelf.Abstract
import Derived.Shelf.RegionOpen
import Derived.OwnWalkIn
import Derived.TacticsInMore
import Derived.LoopNIn
import Derived.LoopIn
namespace Go.Proofs.Ytfebncpfhdgkpaa
open Go.RowKit Go.Sort Go.Shelf
attribute [local go_sem] Oper.semAt_some

/-- The buckets below i that have some. -/
def smU (H : List Int) (i : Nat) : List (Nat × Int) := (List.range i).filterMap fun j => if 0 < H.getD j 0 then some (j, H.getD j 0) else none
theorem smU_yes (H : List Int) (i : Nat) (h : i < H.length) (hp : 0 < H[i]) : smU H (i + 1) = smU H i ++ [(i, H[i])] := by
  have e : H[i]?.getD 0 = H[i] := by rw [List.getElem?_eq_getElem h]; rfl
  unfold smU
  rw [List.range_succ, List.filterMap_append]
  simp [e, hp]
theorem smU_no (H : List Int) (i : Nat) (h : i < H.length) (hp : ¬ 0 < H[i]) : smU H (i + 1) = smU H i := by
  have e : H[i]?.getD 0 = H[i] := by rw [List.getElem?_eq_getElem h]; rfl
  unfold smU
  rw [List.range_succ, List.filterMap_append]
  have h2 : ¬ 0 < H[i]?.getD 0 := by rw [e]; exact hp
  simp only [List.getD_eq_getElem?_getD, List.filterMap_cons, if_neg h2, List.filterMap_nil, List.append_nil]
theorem smU_len (H : List Int) (i : Nat) : (smU H i).length ≤ i := by
  unfold smU
  have := List.length_filterMap_le (fun j => if 0 < H.getD j 0 then some (j, H.getD j 0) else none) (List.range i)
  simpa using this

theorem wpListIn_load_row {F : Fence} {n : Nat} {P : Program} {w : World} {ops : Array Oper} {rest : List Oper} {o : Oper} {a : Act} {Q : Exit → Act → World → Prop} (hgd : o.guard = none) (ty : TypeId) (x : Operand) (ho : o.op = .load ty x)
    (g : Nat) (hx : a.eval x = .pointer (some ⟨g, 0, none⟩)) (t : TypeId) (cs : Array Value) (fr : Nat × Nat) (d : TypeDesc) (hg : w.heap[g]? = some (.cells cs t fr))
    (hu : P.underlying ty = some d) (hd : (match d with | .struct _ | .array _ _ => true | _ => false) = true) (hi : (P.info? ty).map (·.size) = some cs.size)
    (h : wpListIn F n P ops Q rest (a.put o.dst (.agg cs)) w) : wpListIn F n P ops Q (o :: rest) a w := by
  refine wpListIn_plain hgd fun K hK => ?_
  unfold Oper.wpIn
  refine ⟨?_, ?_⟩
  · simp [Oper.about, ho]
  · rw [Oper.semAt_plain F _ _ (by rw [ho]; intro c hc'; cases hc')]
    simp only [execOp, ho, hx, Instr.loadAt, Instr.sureAddr, Sem.run_bind, Sem.run_pure, Result.andThen_ok, run_loadVar_row w g t ty cs fr d hg hu hd hi]
    exact hK _ _ h

def encS (x : Nat × Int) : Array Value := #[.int .i64 (x.1 : Nat), .int .i64 x.2]

set_option maxRecDepth 100000 in
set_option maxHeartbeats 2000000 in
theorem some_stops (n : Nat) (g : Nat) (H : List Int) (hl : H.length = 24) (w : World) (hb : Blk w g 29 (hv H)) :
    SeqStopsK Fence.wide n Try.prog 104 #[.pointer (some ⟨g, 0, none⟩)] encS (fun _ _ => True) (fun xs => xs = smU H 24) (fun pre => ∃ i, i ≤ 24 ∧ pre = smU H i) 24 w := fun l J Jx W hW hJ hJx hY h0 => by
  refine callsIn_of_wp Try.func104 rfl trivial ?_ rfl
  simp only [Try.ntmps104, List.size_toArray, List.length_cons, List.length_nil, Nat.reduceAdd, Nat.reduceSub, Array.replicate_succ, Array.replicate_zero, List.push_toArray, List.append_toArray, List.nil_append, List.cons_append]
  have hb1 := hb.below hW hb.lt
  have hsz := hv_size H hl
  have HX := Lib.hid (fun i h => hv_index H i hl h)
  have HY := Lib.hid hY
  have HS := Lib.hid (And.intro (smU_yes H) (smU_no H))
  have HL := Lib.hid (smU_len H)
  clear hY hJ hJx
  generalize hv H = cs at *
  gi_wp2_with (refine wpListIn_load_row rfl _ _ rfl g rfl 29 cs (0, 0) _ hb1 Try.underlying29 rfl hsz ?_)
  gi_loopw [6] (fun v6 wr => ∃ i : Nat, v6 = .int .i64 i ∧ i ≤ 24 ∧ J (smU H i) wr) (fun v6 _ => 24 - (intOf v6).toNat)
  case atStart => exact ⟨0, rfl, Nat.zero_le _, h0⟩
  case round =>
    obtain ⟨i, rfl, hi, hJ⟩ := hrel
    by_cases h24 : i < 24
    · have hil : i < H.length := by omega
      have hx := HX.out i hil
      have hle := HL.out i
      by_cases hp : 0 < H[i]
      · have hs := Lib.hid (HS.out.1 i hil hp)
        obtain ⟨fn, tmps, assign, body, hy, hR⟩ := HY.out (smU H i) (i, H[i]) wr hJ (by omega)
        unfold encS at hy
        dsimp only at hy
        generalize H[i] = k at *
        gi_wp2
        refine ⟨fun h => (by cases h), ?_⟩
        refine hR.mono ?_
        rintro e W' (⟨rfl, hJ', _⟩ | ⟨rfl, hJx'⟩)
        · rw [← hs.out] at hJ'
          gi_wp2
          go_roundw
          case rel => exact ⟨i + 1, by go_num, by omega, hJ'⟩
          case measure => simp [intOf]; omega
        · rw [← hs.out] at hJx'
          gi_wp2
          refine bodyPost_ret (results_none rfl _ _ _) rfl ?_
          exact ⟨⟨_, rfl⟩, .inr ⟨_, ⟨i + 1, by omega, rfl⟩, hJx'⟩⟩
      · have hs := HS.out.2 i hil (by omega)
        rw [← hs] at hJ
        have HJ := Lib.hid hJ
        clear hs hJ
        generalize H[i] = k at *
        gi_wp2
        refine ⟨fun _ h => (by cases h), ?_⟩
        gi_wp2
        go_roundw
        case rel => exact ⟨i + 1, by go_num, by omega, HJ.out⟩
        case measure => simp [intOf]; omega
    · have he : i = 24 := by omega
      subst he
      gi_wp2
      go_end0
      exact ⟨⟨_, rfl⟩, .inl ⟨_, rfl, hJ⟩⟩

set_option maxRecDepth 100000 in
theorem hist_Some (H : List Int) (w : World) : Calls Try.prog 97 #[.agg (hv H)] w fun e w' => e = .returned (.func (.func 104) #[] #[.pointer (some ⟨w.heap.size, 0, none⟩)]) ∧ w' = w.alloc (.cells (hv H) 29) := by
  go_enter Try.func97, Try.ntmps97
  go_wp2_with fail
  go_ret
  exact ⟨rfl, rfl⟩

/-- The line so far. -/
def lnS (s : List UInt8) (x : Nat × Int) : List UInt8 := (if s = [] then [] else s ++ [32]) ++ (num (x.1 : Nat) ++ [58] ++ num x.2)
def lnF (xs : List (Nat × Int)) : List UInt8 := xs.foldl lnS []
theorem lnF_snoc (xs : List (Nat × Int)) (x : Nat × Int) : lnF (xs ++ [x]) = lnS (lnF xs) x := by simp [lnF]

theorem keeps_of_below {W W' : World} (h : Below W.heap.size W W') : KeepsOthers W W' :=
  ⟨h.size, fun k _ hk _ => (h.block k (Array.getElem?_eq_some_iff.1 hk).1).trans hk⟩
theorem lnS_len (s : List UInt8) (x : Nat × Int) : (lnS s x).length ≤ s.length + 34 := by
  have h1 := num_length (x.1 : Nat)
  have h2 := num_length x.2
  unfold lnS
  split <;> simp <;> omega
theorem foldl_len : ∀ (xs : List (Nat × Int)) (s : List UInt8), (xs.foldl lnS s).length ≤ s.length + 34 * xs.length
  | [], s => by simp
  | x :: xs, s => by
    have h1 := foldl_len xs (lnS s x)
    have h2 := lnS_len s x
    rw [List.foldl_cons, List.length_cons]
    omega
theorem lnF_len (xs : List (Nat × Int)) : (lnF xs).length ≤ 34 * xs.length := by
  have := foldl_len xs []
  simpa [lnF] using this

set_option maxRecDepth 100000 in
set_option maxHeartbeats 2000000 in
theorem hist_Line (H : List Int) (hl : H.length = 24) (w : World) : Calls Try.prog 63 #[.agg (hv H)] w fun e w' => e = .returned (.string ⟨(lnF (smU H 24)).toArray⟩) ∧ Below w.heap.size w w' := by
  refine (callsIn_wide (n := 6)).1 ?_
  refine callsIn_of_wp_marks Try.func63 rfl trivial ?_ rfl
  simp only [Try.ntmps63, List.size_toArray, List.length_cons, List.length_nil, Nat.reduceAdd, Nat.reduceSub, Array.replicate_succ, Array.replicate_zero, List.push_toArray, List.append_toArray, List.nil_append, List.cons_append]
  have hsz := hv_size H hl
  have HSm := Lib.hid (fun w => hist_Some H w)
  have b1 := Blk.new w 29 (hv H)
  replace b1 := b1.alloc (.cells #[.string ByteArray.empty] 9)
  gi_wp2_with (first
    | (refine wpListIn_load_row rfl _ _ rfl w.heap.size rfl 29 (hv H) (0, 0) _ b1 Try.underlying29 rfl hsz ?_)
    | (refine ⟨trivial, ?_⟩; gi_at_call 97; refine (callsIn_wide.2 (HSm.out _)).mono ?_; rintro e w' ⟨rfl, rfl⟩))
  have Bs := (Blk.new (w.alloc (.cells (hv H) 29)) 9 #[.string ⟨#[]⟩]).alloc (.cells (hv H) 29)
  have Bh := Blk.new ((w.alloc (.cells (hv H) 29)).alloc (.cells #[.string ⟨#[]⟩] 9)) 29 (hv H)
  have hB : Below w.heap.size w (((w.alloc (.cells (hv H) 29)).alloc (.cells #[.string ⟨#[]⟩] 9)).alloc (.cells (hv H) 29)) := (((Below.refl _ _).alloc (Nat.le_refl _) _).alloc (by simp) _).alloc (by simp; omega) _
  have hs0 : w.heap.size + 3 ≤ (((w.alloc (.cells (hv H) 29)).alloc (.cells #[.string ⟨#[]⟩] 9)).alloc (.cells (hv H) 29)).heap.size := by simp
  rw [World.size_alloc] at Bs
  rw [World.size_alloc, World.size_alloc] at Bh
  clear b1 HSm
  generalize ((w.alloc (.cells (hv H) 29)).alloc (.cells #[.string ⟨#[]⟩] 9)).alloc (.cells (hv H) 29) = W0 at *
  have HST := some_stops 5 (w.heap.size + 1 + 1) H hl W0 Bh
  generalize hv H = cs at *
  refine wpIn_rangeFunc_ownF (w := W0) rfl (by decide) (gf := 104) (lb := #[.pointer (some ⟨w.heap.size + 1 + 1, 0, none⟩)]) rfl trivial (enters_of Try.func104 (by kernel_rfl) rfl)
    HST (fun _ _ => trivial) (fun _ _ _ _ _ _ _ _ => trivial) (Below.refl _ _) (fun _ => rfl)
    (fun pre W => (W.cell? ⟨w.heap.size + 1, 0, none⟩ = some (.string ⟨(lnF pre).toArray⟩) ∧ W.frozen? ⟨w.heap.size + 1, 0, none⟩ = false) ∧ Below w.heap.size w W)
    (fun _ _ _ => False)
    (OwnFrom.and (Own.from (fun s A B row hs hg hr => ⟨cell_kept hs.1 hg hr, (frozen_kept hs.1 hg hr).trans hs.2⟩) _) (ownFrom_below (Nat.le_refl _) (by omega)))
    (fun _ _ _ _ _ hs _ _ => hs)
    ⟨⟨Bs.cell 0, Bs.frozen 0⟩, hB⟩
    (fun x => { tmps := #[.agg cs, .pointer (some ⟨w.heap.size, 0, none⟩), .string ⟨#[]⟩, .pointer (some ⟨w.heap.size + 1, 0, none⟩), .int .i64 (x.1 : Nat), .int .i64 x.2, .agg cs, .func (.func 104) #[] #[.pointer (some ⟨w.heap.size + 1 + 1, 0, none⟩)], .int .i64 (x.1 : Nat), .int .i64 x.2, undef, undef, undef, undef, undef, undef, undef, undef, undef, undef, undef, undef, undef], defers := [] }) ?assign ?body ?done ?stop
  case assign =>
    intro l x W K hK
    unfold encS
    gi_wp2
    exact hK
  case body =>
    rintro l pre ⟨i, k⟩ W ⟨⟨hc, hf⟩, hB⟩ hpl
    have hsn := lnF_snoc pre (i, k)
    have hln := lnF_len pre
    have hLl : (lnF pre).length ≤ 1000 := by omega
    have n1 := num_length (i : Nat)
    have n2 := num_length k
    dsimp only
    have hmx : Try.prog.follows .mixedOrders = true := by kernel_rfl
    unfold lnS at hsn
    dsimp only at hsn
    generalize lnF pre = L at *
    have hw1 := hB.size
    by_cases hL : L = []
    · subst hL
      rw [if_pos rfl, List.nil_append] at hsn
      have HSN := Lib.hid hsn
      clear hsn
      gi_wp2
      have s0 := cell_regrown hc
      have k0 : ∀ n d os, Calls Try.prog 98 #[.int .i64 n] (grow (redrawn W d) os) fun e w'' => e = .returned (.string ⟨(num n).toArray⟩) ∧ ∃ p : Regrown, w'' = grow (redrawn W p.d) p.os := fun n d os => Calls.regrown_of (nums_Text n _)
      refine wpIn_region_quiet_tail 8 hmx (by kernel_rfl) (by kernel_rfl) ?_
      simp only [List.take_succ_cons, List.take_zero, List.drop_succ_cons, List.drop_zero]
      repeat (go_big_quiet_step (exact k0 _ _ _))
      refine wpQuiet_nil ?_
      intro w' hw'
      obtain ⟨⟨dq, osq⟩, hw''⟩ := hw'
      subst hw''
      have bq := below_regrown W dq osq
      have hc' := s0 dq osq
      have hf' : (grow (redrawn W dq) osq).frozen? ⟨w.heap.size + 1, 0, none⟩ = false := (bq.frozen (p := ⟨w.heap.size + 1, 0, none⟩) (block_lt_of_cell hc)).trans hf
      have hB' := hB.trans (bq.mono hw1)
      clear s0 k0
      gi_wp2
      refine ⟨(keeps_of_below bq).trans (KeepsOthers.setCell _ _ _), trivial, ⟨?_, by rw [World.frozen?_setCell]; exact hf'⟩, hB'.setCell (p := ⟨w.heap.size + 1, 0, none⟩) (Nat.le_succ _) _⟩
      rw [HSN.out]
      refine (World.cell?_setCell_same' _ _ _ (by rw [hc']; rfl)).trans ?_
      simp only [ByteArray.mk_append_mk, List.nil_append]
    · rw [if_neg hL] at hsn
      have HSN := Lib.hid hsn
      have hne : L.isEmpty = false := by cases L with | nil => exact absurd rfl hL | cons a r => rfl
      clear hsn hL
      gi_wp2
      have hc1 := World.cell?_setCell_same' W ⟨w.heap.size + 1, 0, none⟩ (.string (⟨L.toArray⟩ ++ ⟨#[32]⟩)) (by rw [hc]; rfl)
      have hf1 : (W.setCell ⟨w.heap.size + 1, 0, none⟩ (.string (⟨L.toArray⟩ ++ ⟨#[32]⟩))).frozen? ⟨w.heap.size + 1, 0, none⟩ = false := by rw [World.frozen?_setCell]; exact hf
      have hB1 := hB.setCell (p := ⟨w.heap.size + 1, 0, none⟩) (Nat.le_succ _) (.string (⟨L.toArray⟩ ++ ⟨#[32]⟩))
      have hk1 := KeepsOthers.setCell W ⟨w.heap.size + 1, 0, none⟩ (.string (⟨L.toArray⟩ ++ ⟨#[32]⟩))
      clear hc hf hB hw1
      generalize W.setCell ⟨w.heap.size + 1, 0, none⟩ (.string (⟨L.toArray⟩ ++ ⟨#[32]⟩)) = W1 at *
      have hc := hc1
      have hf := hf1
      have hB := hB1
      clear hc1 hf1 hB1
      have hw1 := hB.size
      have s0 := cell_regrown hc
      have k0 : ∀ n d os, Calls Try.prog 98 #[.int .i64 n] (grow (redrawn W1 d) os) fun e w'' => e = .returned (.string ⟨(num n).toArray⟩) ∧ ∃ p : Regrown, w'' = grow (redrawn W1 p.d) p.os := fun n d os => Calls.regrown_of (nums_Text n _)
      refine wpIn_region_quiet_tail 8 hmx (by kernel_rfl) (by kernel_rfl) ?_
      simp only [List.take_succ_cons, List.take_zero, List.drop_succ_cons, List.drop_zero]
      repeat (go_big_quiet_step (exact k0 _ _ _))
      refine wpQuiet_nil ?_
      intro w' hw'
      obtain ⟨⟨dq, osq⟩, hw''⟩ := hw'
      subst hw''
      have bq := below_regrown W1 dq osq
      have hc' := s0 dq osq
      have hf' : (grow (redrawn W1 dq) osq).frozen? ⟨w.heap.size + 1, 0, none⟩ = false := (bq.frozen (p := ⟨w.heap.size + 1, 0, none⟩) (block_lt_of_cell hc)).trans hf
      have hB' := hB.trans (bq.mono hw1)
      clear s0 k0
      gi_wp2
      refine ⟨hk1.trans <| (keeps_of_below bq).trans (KeepsOthers.setCell _ _ _), trivial, ⟨?_, by rw [World.frozen?_setCell]; exact hf'⟩, hB'.setCell (p := ⟨w.heap.size + 1, 0, none⟩) (Nat.le_succ _) _⟩
      rw [HSN.out]
      refine (World.cell?_setCell_same' _ _ _ (by rw [hc']; rfl)).trans ?_
      simp only [ByteArray.mk_append_mk]
  case done =>
    rintro D ys W hD rfl ⟨⟨hc, _⟩, hB⟩ hK
    gi_wp2
    refine ⟨by simp, .inl ⟨_, _, rfl, run_takeDeferred hK, ?_⟩⟩
    exact ⟨_, results_tmp rfl _ _ _, rfl, hB.trans (belowK_b (w := w) (Nat.le_refl _) W D _ _ (by omega) hK rfl rfl)⟩
  case stop =>
    rintro D c pre W _ _ h _
    exact h.elim
end Go.Proofs.Ytfebncpfhdgkpaa
