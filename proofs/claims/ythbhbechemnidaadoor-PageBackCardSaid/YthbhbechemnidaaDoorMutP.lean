/- Contracts of mut.put, mut.Rest, mut.Put: a mutation's bytes. -/
import Derived.Test.YthbhbechemnidaaDoorMutE
import Derived.Test.YthbhbechemnidaaDoorGrow
namespace Go.Proofs.YthbhbechemnidaaDoor
open Go.RowKit Go.Sort

/-- The bytes of a mutation that is not over long: its numbers are of 64 bits, its texts short. -/
structure MutI (m : Mut) : Prop where
  tab : m.tab ≤ 9223372036854775807
  kind : m.kind ≤ 9223372036854775807
  exp : m.exp ≤ 9223372036854775807
  at_ : m.at_.1 ≤ 9223372036854775807 ∧ m.at_.2.1 ≤ 9223372036854775807 ∧ m.at_.2.2 ≤ 9223372036854775807
  ov : ∀ s ∈ m.ov, s.1 ≤ 9223372036854775807 ∧ s.2.1 ≤ 9223372036854775807 ∧ s.2.2 ≤ 9223372036854775807
  key : m.key.size ≤ 1000000
  en : m.en.size ≤ 1000000
  val : m.val.size ≤ 1000000
  len : m.ov.length ≤ 1000000
def bs (s : ByteArray) : List UInt8 := s.data.toList
theorem bs_length (s : ByteArray) : (bs s).length = s.size := Array.length_toList
def mhead (m : Mut) : List UInt8 := (((((wputI m.tab ++ wputI m.kind) ++ wtext (bs m.en)) ++ wtext (bs m.val)) ++ wputI m.exp) ++ sput m.at_) ++ wputI m.ov.length
/-- A mutation's bytes, but its key's. -/
def mrest (m : Mut) : List UInt8 := mhead m ++ m.ov.flatMap sput
def mput (m : Mut) : List UInt8 := wtext (bs m.key) ++ mrest m
/-- All that a list of mutations is put as. -/
def mall (M : List Mut) : List UInt8 := wputI M.length ++ M.flatMap mput
theorem wtext_len (s : ByteArray) (h : s.size ≤ 1000000) : (wtext (bs s)).length ≤ 1000009 := by
  have := wput_length (bs s).length (by rw [bs_length]; omega)
  unfold wtext
  rw [List.length_append]
  have := bs_length s
  omega
theorem sputs_len (ov : List (Int × Int × Int)) (h : ∀ s ∈ ov, s.1 ≤ 9223372036854775807 ∧ s.2.1 ≤ 9223372036854775807 ∧ s.2.2 ≤ 9223372036854775807) : (ov.flatMap sput).length ≤ 27 * ov.length := by
  induction ov with
  | nil => simp
  | cons s t ih =>
    have h1 := h s (List.mem_cons_self ..)
    have := sput_len s h1.1 h1.2.1 h1.2.2
    have := ih fun x hx => h x (List.mem_cons_of_mem _ hx)
    simp only [List.flatMap_cons, List.length_append, List.length_cons]
    omega
theorem take_sput (T : List (Int × Int × Int)) (k : Nat) (hk : k < T.length) : (T.take (k + 1)).flatMap sput = (T.take k).flatMap sput ++ sput T[k] := by
  rw [List.take_succ_eq_append_getElem hk, List.flatMap_append]
  simp
theorem mhead_len (m : Mut) (hi : MutI m) : (mhead m).length ≤ 2000100 := by
  have := wputI_len m.tab hi.tab
  have := wputI_len m.kind hi.kind
  have := wtext_len m.en hi.en
  have := wtext_len m.val hi.val
  have := wputI_len m.exp hi.exp
  have := sput_len m.at_ hi.at_.1 hi.at_.2.1 hi.at_.2.2
  have := wputI_len (m.ov.length : Int) (by have := hi.len; omega)
  unfold mhead
  simp only [List.length_append]
  omega
theorem mrest_len (m : Mut) (hi : MutI m) : (mrest m).length ≤ 30000000 := by
  have := mhead_len m hi
  have := sputs_len m.ov hi.ov
  have := hi.len
  unfold mrest
  rw [List.length_append]
  omega
theorem mput_len (m : Mut) (hi : MutI m) : (mput m).length ≤ 40000000 := by
  have := mrest_len m hi
  have := wtext_len m.key hi.key
  unfold mput
  rw [List.length_append]
  omega

set_option maxRecDepth 100000 in
set_option maxHeartbeats 1000000 in
theorem mut_put (w : World) (base : Nat) (v : Value) (l : List UInt8) (a b c : Int) (hown : Own w base v l) (hbase : base ≤ w.heap.size) (ha : a ≤ 9223372036854775807) (hb : b ≤ 9223372036854775807) (hc : c ≤ 9223372036854775807) (hlen : l.length ≤ 140737488300000) :
    Calls Tryd.prog 85 #[v, .agg #[.int .i64 a, .int .i64 b, .int .i64 c]] w (Puts w base v (l ++ sput (a, b, c))) := by
  have HL := Lib.hid (show l ++ sput (a, b, c) = ((l ++ wputI a) ++ wputI b) ++ wputI c by simp [sput])
  rw [HL.out]
  clear HL
  have BK := Blk.new w 32 #[.int .i64 a, .int .i64 b, .int .i64 c]
  have hO := Lib.hid (hown.alloc (.cells #[.int .i64 a, .int .i64 b, .int .i64 c] 32))
  have hS : w.heap.size < (w.alloc (.cells #[.int .i64 a, .int .i64 b, .int .i64 c] 32)).heap.size := by simp
  have hgr := Lib.hid (grown_alloc (grown_refl w v.ownBlock) (.cells #[.int .i64 a, .int .i64 b, .int .i64 c] 32))
  have hne : Hid (v.ownBlock ≠ some w.heap.size) := Lib.hid (fun e => by have := (hown.lt _ e).2; omega)
  clear hown
  go_enter Tryd.func85, Tryd.ntmps85
  go_upto_region 1 with fail
  generalize w.alloc (.cells #[.int .i64 a, .int .i64 b, .int .i64 c] 32) = W at *
  have q0 : ∀ p : Kept (Outer W.heap.size v) W.drew, p.v.cell? ⟨w.heap.size, 0, none⟩ = some (.int .i64 a) := fun p => p.h.cell ⟨hS, hne.out⟩ (BK.drew.cell 0)
  have q1 : ∀ p : Kept (Outer W.heap.size v) W.drew, p.v.cell? ⟨w.heap.size, 1, none⟩ = some (.int .i64 b) := fun p => p.h.cell ⟨hS, hne.out⟩ (BK.drew.cell 1)
  have q2 : ∀ p : Kept (Outer W.heap.size v) W.drew, p.v.cell? ⟨w.heap.size, 2, none⟩ = some (.int .i64 c) := fun p => p.h.cell ⟨hS, hne.out⟩ (BK.drew.cell 2)
  refine wp_region_mixDk (M := []) (Outer W.heap.size v) [0, 1, 2, 4, 5, 7, 8, 3, 6, 9, 10] (by kernel_rfl) (by kernel_rfl) ?_
  iterate 7 (refine mix_calmDk rfl rfl ?_; go_big_quiet_step (fail); refine wpQuiet_nil ?_)
  have hWs : W.heap.size ≤ W.drew.heap.size := Nat.le_refl _
  refine mix_loudDk rfl (by kernel_rfl) rfl ?_
  intro K1 hK1
  have HK := Lib.hid hK1
  clear hK1 q0 q1 q2 BK
  go_wp2_with fail
  refine (wire_Put W.drew base v l a hO.out (show base ≤ W.heap.size by omega) ha (by omega)).mono ?_
  rintro x w1 ⟨v1, rfl, O1, G1, L1⟩
  have O1 := Lib.hid O1
  have hs1 := Nat.le_trans hWs G1.size
  have L1 := Lib.hid L1
  have G1 := Lib.hid G1
  go_wp2_with fail
  refine HK.out _ _ (stand_puts hWs (.inl rfl) G1.out) ?_
  clear HK
  refine mix_loudDk rfl (by kernel_rfl) rfl ?_
  intro K1 hK1
  have HK := Lib.hid hK1
  clear hK1
  have l1 := wputI_len a ha
  go_wp2_with fail
  refine (wire_Put w1 base v1 (l ++ wputI a) b O1.out (by omega) hb (by rw [List.length_append]; omega)).mono ?_
  rintro x w2 ⟨v2, rfl, O2, G2, L2⟩
  have O2 := Lib.hid O2
  have hs2 := Nat.le_trans hs1 G2.size
  have L2 := Lib.hid L2
  have G2 := Lib.hid G2
  go_wp2_with fail
  refine HK.out _ _ (stand_puts hs1 (by rcases L1.out with h | ⟨g, h, h'⟩; exact .inl h; exact .inr ⟨g, h, h'⟩) G2.out) ?_
  clear HK
  refine mix_loudDk rfl (by kernel_rfl) rfl ?_
  intro K1 hK1
  have HK := Lib.hid hK1
  clear hK1
  have l2 := wputI_len b hb
  go_wp2_with fail
  refine (wire_Put w2 base v2 ((l ++ wputI a) ++ wputI b) c O2.out (by omega) hc (by rw [List.length_append, List.length_append]; omega)).mono ?_
  rintro x w3 ⟨v3, rfl, O3, G3, L3⟩
  have O3 := Lib.hid O3
  have hs3 := Nat.le_trans hs2 G3.size
  have L3 := Lib.hid L3
  have G3 := Lib.hid G3
  have L12 := Lib.hid (lies_trans (Nat.le_trans hWs G1.out.size) L1.out L2.out)
  go_wp2_with fail
  refine HK.out _ _ (stand_puts hs2 (by rcases L12.out with h | ⟨g, h, h'⟩; exact .inl h; exact .inr ⟨g, h, h'⟩) G3.out) ?_
  clear HK
  refine mix_calmDk rfl rfl ?_
  go_big_quiet_step (fail)
  refine wpQuiet_nil ?_
  refine mix_endDk ?_
  go_wp2_with fail
  go_ret
  exact Puts.next hgr.out (lies_refl _ _) (Puts.next (grown_undrew G1.out) L1.out (Puts.next G2.out L2.out ⟨v3, rfl, O3.out, G3.out, L3.out⟩))

def RestRel (w : World) (base : Nat) (m : Mut) (cs : Array Value) (v0 : Value) (L : List UInt8) (n : Nat) (v36 v : Value) (wr : World) : Prop :=
  ∃ k : Nat, v36 = .int .i64 k ∧ k ≤ n ∧ Grows w base w.heap.size 35 cs v0 v (L ++ (m.ov.take k).flatMap sput) wr

set_option maxRecDepth 100000 in
set_option maxHeartbeats 4000000 in
theorem mut_Rest (w : World) (base : Nat) (v : Value) (l : List UInt8) (m : Mut) (A : Option Addr) (n c : Nat) (hown : Own w base v l) (hbase : base ≤ w.heap.size) (hr : Reads w base 3 A n (m.ov.flatMap sc)) (hi : MutI m) (hlen : l.length ≤ 100000000000) :
    Calls Tryd.prog 38 #[v, .agg (mutC m (.slice A n c))] w (Puts w base v (l ++ mrest m)) := by
  have hll := stamps_n hr
  have HX := Lib.hid (show l ++ mrest m = (((((((l ++ wputI m.tab) ++ wputI m.kind) ++ wtext (bs m.en)) ++ wtext (bs m.val)) ++ wputI m.exp) ++ sput m.at_) ++ wputI (n : Int)) ++ m.ov.flatMap sput by rw [← hll]; simp [mrest, mhead])
  rw [HX.out]
  clear HX
  have GR := Grows.start hown (mutC m (.slice A n c)) 35
  have HR := Lib.hid hr
  have HLL := Lib.hid hll
  have HI := Lib.hid hi
  have l0 := wputI_len m.tab hi.tab
  have l1 := wputI_len m.kind hi.kind
  have l2 := wtext_len m.en hi.en
  have l3 := wtext_len m.val hi.val
  have l4 := wputI_len m.exp hi.exp
  have l5 := sput_len m.at_ hi.at_.1 hi.at_.2.1 hi.at_.2.2
  have hn6 : n ≤ 1000000 := by rw [← hll]; exact hi.len
  have l6 := wputI_len (n : Int) (by omega)
  clear hr hll hi hown
  go_enter Tryd.func38, Tryd.ntmps38
  go_upto_region 1 with fail
  generalize w.alloc (.cells (mutC m (.slice A n c)) 35) = W at *
  have hb := GR.base_lt hbase
  replace GR := GR.drew
  have q0 : ∀ p : Kept (· = w.heap.size) W.drew, p.v.cell? ⟨w.heap.size, 0, none⟩ = some (.int .i64 m.tab) := fun p => p.h.cell rfl (GR.blk.cell 0)
  have q1 : ∀ p : Kept (· = w.heap.size) W.drew, p.v.cell? ⟨w.heap.size, 1, none⟩ = some (.int .i64 m.kind) := fun p => p.h.cell rfl (GR.blk.cell 1)
  refine wp_region_mixDk (M := []) (· = w.heap.size) [0, 1, 2, 4, 5, 3, 6, 7] (by kernel_rfl) (by kernel_rfl) ?_
  iterate 5 (refine mix_calmDk rfl rfl ?_; go_big_quiet_step (fail); refine wpQuiet_nil ?_)
  refine mix_loudDk rfl (by kernel_rfl) rfl ?_
  intro K1 hK1
  have HK := Lib.hid hK1
  clear hK1 q0 q1
  go_wp2_with fail
  refine (wire_Put W.drew base v l m.tab GR.own hb HI.out.tab (by omega)).mono ?_
  rintro x w1 ⟨v1, rfl, O9, G9, L9⟩
  have HG9 := Lib.hid G9
  have HS9 := Lib.hid (GR.stand G9)
  replace GR := GR.step O9 G9 L9
  clear O9 G9 L9 HG9
  go_wp2_with fail
  refine HK.out _ _ (HS9.out) ?_
  clear HK
  clear HS9
  replace hb := GR.base_lt hbase
  refine mix_loudDk rfl (by kernel_rfl) rfl ?_
  intro K1 hK1
  have HK := Lib.hid hK1
  clear hK1 
  go_wp2_with fail
  refine (wire_Put w1 base v1 (l ++ wputI m.tab) m.kind GR.own hb HI.out.kind (by (repeat rw [List.length_append]); omega)).mono ?_
  rintro x w2 ⟨v2, rfl, O9, G9, L9⟩
  have HG9 := Lib.hid G9
  have HS9 := Lib.hid (GR.stand G9)
  replace GR := GR.step O9 G9 L9
  clear O9 G9 L9 HG9
  go_wp2_with fail
  refine HK.out _ _ (HS9.out) ?_
  clear HK
  clear HS9
  iterate 1 (refine mix_calmDk rfl rfl ?_; go_big_quiet_step (fail); refine wpQuiet_nil ?_)
  refine mix_endDk ?_
  replace hb := GR.base_lt hbase
  go_upto_region 2 with fail
  replace GR := GR.drew
  have q3 : ∀ p : Kept (· = w.heap.size) w2.drew, p.v.cell? ⟨w.heap.size, 3, none⟩ = some (.string m.en) := fun p => p.h.cell rfl (GR.blk.cell 3)
  have q4 : ∀ p : Kept (· = w.heap.size) w2.drew, p.v.cell? ⟨w.heap.size, 4, none⟩ = some (.string m.val) := fun p => p.h.cell rfl (GR.blk.cell 4)
  refine wp_region_mixDk (M := []) (· = w.heap.size) [0, 1, 2, 4, 5, 3, 6, 7] (by kernel_rfl) (by kernel_rfl) ?_
  iterate 5 (refine mix_calmDk rfl rfl ?_; go_big_quiet_step (fail); refine wpQuiet_nil ?_)
  refine mix_loudDk rfl (by kernel_rfl) rfl ?_
  intro K1 hK1
  have HK := Lib.hid hK1
  clear hK1 q3 q4
  go_wp2_with fail
  refine (wire_Text w2.drew base v2 ((l ++ wputI m.tab) ++ wputI m.kind) m.en GR.own hb (by have := HI.out.en; (repeat rw [List.length_append]); omega)).mono ?_
  rintro x w3 ⟨v3, rfl, O9, G9, L9⟩
  have HG9 := Lib.hid G9
  have HS9 := Lib.hid (GR.stand G9)
  replace GR := GR.step O9 G9 L9
  clear O9 G9 L9 HG9
  go_wp2_with fail
  refine HK.out _ _ (HS9.out) ?_
  clear HK
  clear HS9
  replace hb := GR.base_lt hbase
  refine mix_loudDk rfl (by kernel_rfl) rfl ?_
  intro K1 hK1
  have HK := Lib.hid hK1
  clear hK1 
  go_wp2_with fail
  refine (wire_Text w3 base v3 (((l ++ wputI m.tab) ++ wputI m.kind) ++ wtext (bs m.en)) m.val GR.own hb (by have := HI.out.val; (repeat rw [List.length_append]); omega)).mono ?_
  rintro x w4 ⟨v4, rfl, O9, G9, L9⟩
  have HG9 := Lib.hid G9
  have HS9 := Lib.hid (GR.stand G9)
  replace GR := GR.step O9 G9 L9
  clear O9 G9 L9 HG9
  go_wp2_with fail
  refine HK.out _ _ (HS9.out) ?_
  clear HK
  clear HS9
  iterate 1 (refine mix_calmDk rfl rfl ?_; go_big_quiet_step (fail); refine wpQuiet_nil ?_)
  refine mix_endDk ?_
  replace hb := GR.base_lt hbase
  go_upto_region 3 with fail
  replace GR := GR.drew
  have q5 : ∀ p : Kept (· = w.heap.size) w4.drew, p.v.cell? ⟨w.heap.size, 5, none⟩ = some (.int .i64 m.exp) := fun p => p.h.cell rfl (GR.blk.cell 5)
  have q6 : ∀ p : Kept (· = w.heap.size) w4.drew, p.v.cell? ⟨w.heap.size, 6, none⟩ = some (.int .i64 m.at_.1) := fun p => p.h.cell rfl (GR.blk.cell 6)
  have q7 : ∀ p : Kept (· = w.heap.size) w4.drew, p.v.cell? ⟨w.heap.size, 7, none⟩ = some (.int .i64 m.at_.2.1) := fun p => p.h.cell rfl (GR.blk.cell 7)
  have q8 : ∀ p : Kept (· = w.heap.size) w4.drew, p.v.cell? ⟨w.heap.size, 8, none⟩ = some (.int .i64 m.at_.2.2) := fun p => p.h.cell rfl (GR.blk.cell 8)
  refine wp_region_mixDk (M := []) (· = w.heap.size) [0, 1, 2, 4, 5, 3, 6, 7] (by kernel_rfl) (by kernel_rfl) ?_
  iterate 5 (refine mix_calmDk rfl rfl ?_; go_big_quiet_step (fail); refine wpQuiet_nil ?_)
  refine mix_loudDk rfl (by kernel_rfl) rfl ?_
  intro K1 hK1
  have HK := Lib.hid hK1
  clear hK1 q5 q6 q7 q8
  go_wp2_with fail
  refine (wire_Put w4.drew base v4 ((((l ++ wputI m.tab) ++ wputI m.kind) ++ wtext (bs m.en)) ++ wtext (bs m.val)) m.exp GR.own hb HI.out.exp (by (repeat rw [List.length_append]); omega)).mono ?_
  rintro x w5 ⟨v5, rfl, O9, G9, L9⟩
  have HG9 := Lib.hid G9
  have HS9 := Lib.hid (GR.stand G9)
  replace GR := GR.step O9 G9 L9
  clear O9 G9 L9 HG9
  go_wp2_with fail
  refine HK.out _ _ (HS9.out) ?_
  clear HK
  clear HS9
  replace hb := GR.base_lt hbase
  refine mix_loudDk rfl (by kernel_rfl) rfl ?_
  intro K1 hK1
  have HK := Lib.hid hK1
  clear hK1 
  go_wp2_with fail
  refine (mut_put w5 base v5 (((((l ++ wputI m.tab) ++ wputI m.kind) ++ wtext (bs m.en)) ++ wtext (bs m.val)) ++ wputI m.exp) m.at_.1 m.at_.2.1 m.at_.2.2 GR.own hb HI.out.at_.1 HI.out.at_.2.1 HI.out.at_.2.2 (by (repeat rw [List.length_append]); omega)).mono ?_
  rintro x w6 ⟨v6, rfl, O9, G9, L9⟩
  have HG9 := Lib.hid G9
  have HS9 := Lib.hid (GR.stand G9)
  replace GR := GR.step O9 G9 L9
  clear O9 G9 L9 HG9
  go_wp2_with fail
  refine HK.out _ _ (HS9.out) ?_
  clear HK
  clear HS9
  iterate 1 (refine mix_calmDk rfl rfl ?_; go_big_quiet_step (fail); refine wpQuiet_nil ?_)
  refine mix_endDk ?_
  replace hb := GR.base_lt hbase
  have q9 : w6.cell? ⟨w.heap.size, 9, none⟩ = some (.slice A n c) := GR.blk.cell 9
  go_wp2_with fail
  refine (wire_Put w6 base v6 (((((((l ++ wputI m.tab) ++ wputI m.kind) ++ wtext (bs m.en)) ++ wtext (bs m.val)) ++ wputI m.exp) ++ sput m.at_)) (n : Int) GR.own hb (by omega) (by (repeat rw [List.length_append]); omega)).mono ?_
  rintro x w7 ⟨v7, rfl, O9, G9, L9⟩
  replace GR := GR.step O9 G9 L9
  clear O9 G9 L9 q9
  obtain ⟨L, hL⟩ : ∃ L, (((((((l ++ wputI m.tab) ++ wputI m.kind) ++ wtext (bs m.en)) ++ wtext (bs m.val)) ++ wputI m.exp) ++ sput m.at_)) ++ wputI (n : Int) = L := ⟨_, rfl⟩
  have hLl : L.length ≤ 200000000000 := by rw [← hL]; (repeat rw [List.length_append]); omega
  rw [hL] at GR
  have HLQ := Lib.hid hL
  clear hL l0 l1 l2 l3 l4 l5 l6
  replace hb := GR.base_lt hbase
  have q9 : w7.cell? ⟨w.heap.size, 9, none⟩ = some (.slice A n c) := GR.blk.cell 9
  go_wp2_with fail
  clear q9
  go_loopw [0, 6, 36] (fun v0 _ v36 wr => RestRel w base m (mutC m (.slice A n c)) v L n v36 v0 wr) (fun _ _ v36 _ => n - (RowKit.intOf v36).toNat)
  case atStart => exact ⟨0, rfl, Nat.zero_le _, by simpa using GR⟩
  case round =>
    clear GR hb
    obtain ⟨k, rfl, hk, GR⟩ := hrel
    have hb := GR.base_lt hbase
    by_cases hkn : k < n
    · have hkT : k < m.ov.length := by have := HLL.out; omega
      obtain ⟨b, off, hA, hb2, t0, t1, t2⟩ := stamp_at (HR.out.below (GR.below hbase)) hkT
      subst hA
      have hid := HI.out.ov m.ov[k] (List.getElem_mem hkT)
      have hsl := sputs_len (m.ov.take k) (fun s hs => HI.out.ov s (List.mem_of_mem_take hs))
      rw [List.length_take] at hsl
      have HF := Lib.hid (take_sput m.ov k hkT)
      obtain ⟨a1, a2, a3, hid2⟩ : ∃ a1 a2 a3, m.ov[k] = (a1, a2, a3) := ⟨_, _, _, rfl⟩
      rw [hid2] at t0 t1 t2 hid HF
      simp only [] at t0 t1 t2 hid
      have HR9 := Lib.hid HR.out
      clear hid2
      have hll : (L ++ (m.ov.take k).flatMap sput).length ≤ 140737488300000 := by rw [List.length_append]; omega
      have GA := GR.alloc (.cells #[.int .i64 a1, .int .i64 a2, .int .i64 a3] 32)
      have BT := Blk.new wr 32 #[.int .i64 a1, .int .i64 a2, .int .i64 a3]
      have cT := BT.cell
      have HLLn := Lib.hid hll
      clear hll hsl
      go_wp2_with fail
      refine (mut_put _ base u0 (L ++ (m.ov.take k).flatMap sput) a1 a2 a3 GA.own (GA.base_lt hbase) hid.1 hid.2.1 hid.2.2 HLLn.out).mono ?_
      rintro x w8 ⟨v8, rfl, O9, G9, L9⟩
      replace GA := GA.step O9 G9 L9
      rw [List.append_assoc, ← HF.out] at GA
      clear O9 G9 L9 cT BT GR HF t0 t1 t2
      go_wp2_with fail
      go_roundw
      case rel => exact ⟨k + 1, by go_num, by omega, GA⟩
      case measure => simp [RowKit.intOf]; omega
    · have hkn : k = n := by omega
      subst hkn
      rw [List.take_of_length_le (by rw [HLL.out]; exact Nat.le_refl _)] at GR
      go_wp2_with fail
      go_ret
      rw [HLQ.out]
      exact GR.puts

set_option maxRecDepth 100000 in
set_option maxHeartbeats 2000000 in
theorem mut_Put (w : World) (base : Nat) (v : Value) (l : List UInt8) (m : Mut) (A : Option Addr) (n c : Nat) (hown : Own w base v l) (hbase : base ≤ w.heap.size) (hr : Reads w base 3 A n (m.ov.flatMap sc)) (hi : MutI m) (hlen : l.length ≤ 90000000000) :
    Calls Tryd.prog 35 #[v, .agg (mutC m (.slice A n c))] w (Puts w base v (l ++ mput m)) := by
  have HX := Lib.hid (show l ++ mput m = (l ++ wtext (bs m.key)) ++ mrest m by simp [mput])
  rw [HX.out]
  clear HX
  have GR := Grows.start hown (mutC m (.slice A n c)) 35
  have HR := Lib.hid hr
  have HI := Lib.hid hi
  have l0 := wtext_len m.key hi.key
  clear hr hi hown
  go_enter Tryd.func35, Tryd.ntmps35
  go_upto_region 1 with fail
  generalize w.alloc (.cells (mutC m (.slice A n c)) 35) = W at *
  have hb := GR.base_lt hbase
  replace GR := GR.drew
  have q0 : ∀ p : Kept (· = w.heap.size) W.drew, p.v.cell? ⟨w.heap.size, 0, none⟩ = some (.int .i64 m.tab) := fun p => p.h.cell rfl (GR.blk.cell 0)
  have q1 : ∀ p : Kept (· = w.heap.size) W.drew, p.v.cell? ⟨w.heap.size, 1, none⟩ = some (.int .i64 m.kind) := fun p => p.h.cell rfl (GR.blk.cell 1)
  have q2 : ∀ p : Kept (· = w.heap.size) W.drew, p.v.cell? ⟨w.heap.size, 2, none⟩ = some (.string m.key) := fun p => p.h.cell rfl (GR.blk.cell 2)
  have q3 : ∀ p : Kept (· = w.heap.size) W.drew, p.v.cell? ⟨w.heap.size, 3, none⟩ = some (.string m.en) := fun p => p.h.cell rfl (GR.blk.cell 3)
  have q4 : ∀ p : Kept (· = w.heap.size) W.drew, p.v.cell? ⟨w.heap.size, 4, none⟩ = some (.string m.val) := fun p => p.h.cell rfl (GR.blk.cell 4)
  have q5 : ∀ p : Kept (· = w.heap.size) W.drew, p.v.cell? ⟨w.heap.size, 5, none⟩ = some (.int .i64 m.exp) := fun p => p.h.cell rfl (GR.blk.cell 5)
  have q6 : ∀ p : Kept (· = w.heap.size) W.drew, p.v.cell? ⟨w.heap.size, 6, none⟩ = some (.int .i64 m.at_.1) := fun p => p.h.cell rfl (GR.blk.cell 6)
  have q7 : ∀ p : Kept (· = w.heap.size) W.drew, p.v.cell? ⟨w.heap.size, 7, none⟩ = some (.int .i64 m.at_.2.1) := fun p => p.h.cell rfl (GR.blk.cell 7)
  have q8 : ∀ p : Kept (· = w.heap.size) W.drew, p.v.cell? ⟨w.heap.size, 8, none⟩ = some (.int .i64 m.at_.2.2) := fun p => p.h.cell rfl (GR.blk.cell 8)
  have q9 : ∀ p : Kept (· = w.heap.size) W.drew, p.v.cell? ⟨w.heap.size, 9, none⟩ = some (.slice A n c) := fun p => p.h.cell rfl (GR.blk.cell 9)
  refine wp_region_mixDk (M := []) (· = w.heap.size) [0, 1, 2, 4, 3, 5, 6] (by kernel_rfl) (by kernel_rfl) ?_
  iterate 4 (refine mix_calmDk rfl rfl ?_; go_big_quiet_step (fail); refine wpQuiet_nil ?_)
  refine mix_loudDk rfl (by kernel_rfl) rfl ?_
  intro K1 hK1
  have HK := Lib.hid hK1
  clear hK1 q0 q1 q2 q3 q4 q5 q6 q7 q8 q9
  go_wp2_with fail
  refine (wire_Text W.drew base v l m.key GR.own hb (by have := HI.out.key; omega)).mono ?_
  rintro x w1 ⟨v1, rfl, O9, G9, L9⟩
  have HG9 := Lib.hid G9
  have HS9 := Lib.hid (GR.stand G9)
  replace GR := GR.step O9 G9 L9
  clear O9 G9 L9 HG9
  go_wp2_with fail
  refine HK.out _ _ (HS9.out) ?_
  clear HK
  clear HS9
  replace hb := GR.base_lt hbase
  refine mix_loudDk rfl (by kernel_rfl) rfl ?_
  intro K1 hK1
  have HK := Lib.hid hK1
  clear hK1 
  go_wp2_with fail
  refine (mut_Rest w1 base v1 (l ++ wtext (bs m.key)) m A n c GR.own hb (HR.out.below ((GR.below hbase).mono (Nat.le_refl _))) HI.out (by rw [List.length_append]; omega)).mono ?_
  rintro x w2 ⟨v2, rfl, O9, G9, L9⟩
  have HG9 := Lib.hid G9
  have HS9 := Lib.hid (GR.stand G9)
  replace GR := GR.step O9 G9 L9
  clear O9 G9 L9 HG9
  go_wp2_with fail
  refine HK.out _ _ (HS9.out) ?_
  clear HK
  clear HS9
  iterate 1 (refine mix_calmDk rfl rfl ?_; go_big_quiet_step (fail); refine wpQuiet_nil ?_)
  refine mix_endDk ?_
  go_wp2_with fail
  go_ret
  exact GR.puts
end Go.Proofs.YthbhbechemnidaaDoor
