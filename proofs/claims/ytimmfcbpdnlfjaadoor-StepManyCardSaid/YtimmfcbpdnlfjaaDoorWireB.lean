/- A slice of bytes that the call itself owns; append onto it. Lengths are at most 2^47. Contract of slices.Clone at bytes: a row of the call's own with the same bytes. At most 2^47 bytes. Plain lemmas on numbers as bytes, seven bits a byte; no program is named here. Contract of wire.Put. append of a text's bytes onto a slice of bytes that the call itself owns. Lengths are at most 2^47. Contracts of wire.Text, of the reference's Put and Text, of wire.New. Lengths are at most 2^47 less a little. -/
import Derived.Test.YtimmfcbpdnlfjaaDoorAppend
import Derived.Test.YtimmfcbpdnlfjaaDoorForm
import Derived.Lib.AppendStr
namespace Go.Proofs.YtimmfcbpdnlfjaaDoor
open Go.RowKit

theorem info_u8 : (Tryd.prog.info? 5).map (fun i => (i.zero, i.size, i.bytes)) = some (some (.int .u8 0), 1, 1) := by kernel_rfl

/-- The slice value v owns just the bytes l, in a block from base on. -/
def Own (w : World) (base : Nat) (v : Value) (l : List UInt8) : Prop := w.ownsRow base 5 1 v l.length (l.map vb)

/-- Where a grown slice lies: in its old block, or in a new one. -/
def Lies (w : World) (v v' : Value) : Prop := v'.ownBlock = v.ownBlock ∨ ∃ g, v'.ownBlock = some g ∧ w.heap.size ≤ g

section
variable {w w' : World} {base : Nat} {v : Value} {l : List UInt8}
theorem Own.nil_ (w : World) (base : Nat) : Own w base (.slice none 0 0) [] := World.ownsRow_nil _ _ _ _
theorem Own.kept {row : Option Nat} (h : Own w base v l) (hg : w.grownBy w' row) (hne : v.ownBlock = none ∨ v.ownBlock ≠ row) : Own w' base v l := World.ownsRow.kept h hg hne
theorem Own.alloc (h : Own w base v l) (o : Obj) : Own (w.alloc o) base v l := World.ownsRow.alloc h o
theorem Own.drewN (h : Own w base v l) (m : Nat) : Own (w.drewN m) base v l := h
theorem Own.lt (h : Own w base v l) : ∀ k, v.ownBlock = some k → base ≤ k ∧ k < w.heap.size := World.ownsRow.lt h
theorem Own.below (h : Own w base v l) (hb : Below w.heap.size w w') : Own w' base v l :=
  Own.kept (row := none) h ⟨hb.os, hb.tape, hb.output, hb.size, fun k hk _ => hb.block k hk⟩ (by cases v.ownBlock <;> simp)
theorem Own.base_le (h : Own w base v l) {base' : Nat} (hb : base' ≤ base) : Own w base' v l := by
  obtain ⟨h1, h2⟩ := h
  refine ⟨h1, ?_⟩
  rcases h2 with h2 | ⟨g, cap, cur, hv, hg, r⟩
  · exact .inl h2
  · exact .inr ⟨g, cap, cur, hv, by omega, r⟩
/-- What it is: nil, or a slice from the head of its block. -/
theorem Own.form (h : Own w base v l) : (v = .slice none 0 0 ∧ l = []) ∨ ∃ g cap, v = .slice (some ⟨g, 0, none⟩) l.length cap ∧ base ≤ g ∧ g < w.heap.size ∧ l.length ≤ cap ∧ cap ≤ maxLen ∧ ∀ k (hk : k < l.length), w.cell? ⟨g, k, none⟩ = some (.int .u8 (l[k].toNat : Int)) := by
  rcases h.2 with ⟨hv, hn⟩ | ⟨g, cap, cur, hv, hg, hh, hn, hc, hs, htake⟩
  · left
    refine ⟨hv, ?_⟩
    simpa using hn
  · right
    refine ⟨g, cap, hv, hg, (Array.getElem?_eq_some_iff.1 hh).1, hn, hc, fun k hk => ?_⟩
    have h1 := World.ownsRow.cells h (g := g) (by rw [hv]; rfl) k (vb l[k]) (by simp [hk])
    rw [add_lit] at h1
    simpa [vb] using h1
theorem Own.frozen (h : Own w base v l) {g : Nat} (hg : v.ownBlock = some g) (k : Nat) : w.frozen? ⟨g, k, none⟩ = false := by
  rcases h.2 with ⟨hv, _⟩ | ⟨g', cap, cur, hv, _, hh, _⟩
  · rw [hv] at hg; simp [Value.ownBlock] at hg
  · rw [hv] at hg
    simp [Value.ownBlock] at hg
    subst hg
    simp [World.frozen?, hh]
theorem Own.reads (h : Own w base v l) : ∃ A c, v = .slice A l.length c ∧ l.length ≤ c ∧ Reads w w.heap.size 1 A l.length (l.map vb) := by
  rcases h.form with ⟨hv, hl⟩ | ⟨g, cap, hv, _, _, hc, _⟩
  · subst hl
    exact ⟨none, 0, hv, Nat.le_refl _, Reads.none_⟩
  · refine ⟨_, cap, hv, hc, ?_⟩
    have h' : w.ownsRow base 5 1 (.slice (some ⟨g, 0, none⟩) l.length cap) l.length (l.map vb) := hv ▸ h
    exact Reads.of_own h'
theorem Own.row (h : Own w base v l) {g : Nat} (hg : v.ownBlock = some g) : base ≤ g := (h.lt g hg).1
end

theorem reads_one (w : World) (t : TypeId) (c : UInt8) (u : Value) (hu : u = vb c) : Reads (w.alloc (.cells #[u] t)) (w.alloc (.cells #[u] t)).heap.size 1 (some ⟨w.heap.size, 0, none⟩) 1 ([c].map vb) := by
  subst hu
  refine ⟨rfl, fun _ => ⟨_, rfl, by simp, fun j x hx => ?_⟩⟩
  match j, hx with
  | 0, hx => simp at hx; subst hx; simp [Addr.add, World.cell?_alloc_new]

/-- 'append(s, x...)', s the call's own, x any bytes. -/
theorem append_bytes {ops : Array Oper} {rest : List Oper} {o : Oper} {a : Act} {Q : Exit → Act → World → Prop} (w : World) (hgd : o.guard = none) (s x : Operand)
    (ho : o.op = .call { callee := .builtin .append, args := #[s, x], argTypes := #[59, 59] }) (base : Nat) (v : Value) (l : List UInt8) (hs : a.eval s = v) (hown : Own w base v l)
    (A : Option Addr) (m c : Nat) (news : List UInt8) (hx : a.eval x = .slice A m c) (hr : Reads w w.heap.size 1 A m (news.map vb)) (hlen : l.length + m ≤ 140737488355328) (hbase : base ≤ w.heap.size)
    (h : ∀ v' w', Own w' base v' (l ++ news) → w.grownBy w' v.ownBlock → Lies w v v' → wpList Tryd.prog ops Q rest (a.put o.dst v') w') : wpList Tryd.prog ops Q (o :: rest) a w := by
  obtain ⟨i0, hi, hz0, hz1, hz2⟩ := info_parts info_u8
  have hn := hr.len
  refine wpList_append_any w hgd s x _ ho base 5 i0 (.int .u8 0) 1 1 Tryd.underlying59 hi hz0 hz1 hz2 rfl (by decide) v l.length (l.map vb) hs hown w.heap.size A m c (news.map vb) hx hr (vb_one _) (by simp only [maxLen]; omega) (by omega) hbase ?_
  intro v' w' h1 h2 h3
  refine h v' w' ?_ h2 ?_
  · unfold Own
    rw [List.map_append, List.length_append, hn]
    exact h1
  · rcases h3 with h3 | h3
    · exact .inl h3
    · exact .inr ⟨_, h3, Nat.le_refl _⟩

/-- 'append(s, c)', s the call's own, c one byte, laid in a block of its own first. -/
theorem append_byte {ops : Array Oper} {rest : List Oper} {o : Oper} {a : Act} {Q : Exit → Act → World → Prop} (w : World) (u : Value) (c : UInt8) (hu : u = vb c) (t : TypeId) (hgd : o.guard = none) (s x : Operand)
    (ho : o.op = .call { callee := .builtin .append, args := #[s, x], argTypes := #[59, 59] }) (base : Nat) (v : Value) (l : List UInt8) (hs : a.eval s = v) (hown : Own w base v l)
    (hx : a.eval x = .slice (some ⟨w.heap.size, 0, none⟩) 1 1) (hlen : l.length + 1 ≤ 140737488355328) (hbase : base ≤ w.heap.size)
    (h : ∀ v' w', Own w' base v' (l ++ [c]) → w.grownBy w' v.ownBlock → Lies w v v' → wpList Tryd.prog ops Q rest (a.put o.dst v') w') : wpList Tryd.prog ops Q (o :: rest) a (w.alloc (.cells #[u] t)) := by
  refine append_bytes (w.alloc (.cells #[u] t)) hgd s x ho base v l hs (hown.alloc _) _ 1 1 [c] hx (reads_one w t c u hu) hlen (by simp; omega) ?_
  intro v' w' h1 h2 h3
  refine h v' w' h1 ⟨h2.os, h2.tape, h2.output, by have := h2.size; simp at this; omega, fun k hk hne => ?_⟩ ?_
  · rw [h2.block k (by simp; omega) hne]
    exact Below.heap_alloc w _ k hk
  · rcases h3 with h3 | ⟨g, h3, h4⟩
    · exact .inl h3
    · exact .inr ⟨g, h3, by simp at h4; omega⟩
end Go.Proofs.YtimmfcbpdnlfjaaDoor

namespace Go.Proofs.YtimmfcbpdnlfjaaDoor
open Go.RowKit Go.Sort

/-- The call hands back a slice of its own with the bytes l; nothing that was there has turned. -/
def Fresh (w : World) (l : List UInt8) (e : Ending) (w' : World) : Prop := ∃ v', e = .returned v' ∧ Own w' w.heap.size v' l ∧ Below w.heap.size w w'

theorem below_of_grown_nil {w w' : World} (h : w.grownBy w' none) : Below w.heap.size w w' := ⟨h.os, h.tape, h.output, h.size, fun k hk => h.block k hk (by simp)⟩
theorem below_of_grown {B : Nat} {a w w' : World} {v : Value} (hb : Below B a w) (hB : B ≤ w.heap.size) (h : w.grownBy w' v.ownBlock) (hv : ∀ k, v.ownBlock = some k → B ≤ k) : Below B a w' :=
  hb.grown h hB hv

end Go.Proofs.YtimmfcbpdnlfjaaDoor

namespace Go.Proofs.YtimmfcbpdnlfjaaDoor

/-- The bytes ahead of the last one, of a number. -/
def hi (n : Nat) : List UInt8 := if n = 0 then [] else hi (n / 128) ++ [UInt8.ofNat (128 + n % 128)]
theorem hi_zero : hi 0 = [] := by rw [hi, if_pos rfl]
theorem hi_pos (n : Nat) (h : n ≠ 0) : hi n = hi (n / 128) ++ [UInt8.ofNat (128 + n % 128)] := by rw [hi, if_neg h]
/-- A number's bytes. -/
def wput (n : Nat) : List UInt8 := hi (n / 128) ++ [UInt8.ofNat (n % 128)]
/-- The bytes of whichever number: of one below 0 those of 0. -/
def wputI (n : Int) : List UInt8 := wput n.toNat
theorem hi_length : ∀ (k n : Nat), n < 128 ^ k → (hi n).length ≤ k
  | 0, n, h => by have : n = 0 := by simpa using h
                  rw [this, hi_zero]; simp
  | k + 1, n, h => by
    by_cases h0 : n = 0
    · rw [h0, hi_zero]; simp
    · rw [hi_pos n h0]
      have := hi_length k (n / 128) (by rw [Nat.div_lt_iff_lt_mul (by decide)]; rw [Nat.pow_succ] at h; exact h)
      simp; omega
theorem wput_length (n : Nat) (h : n ≤ 9223372036854775807) : (wput n).length ≤ 9 := by
  have := hi_length 8 (n / 128) (by omega)
  unfold wput
  simp; omega
theorem wput_pos (n : Nat) : 0 < (wput n).length := by unfold wput; simp

def up (c : UInt8) : UInt8 := UInt8.ofNat (128 + c.toNat % 128)
theorem up_toNat (c : UInt8) : (up c).toNat = 128 + c.toNat % 128 := by unfold up; rw [UInt8.toNat_ofNat']; omega
theorem up_of (n : Nat) : up (UInt8.ofNat (n % 128)) = UInt8.ofNat (128 + n % 128) := by
  unfold up
  rw [UInt8.toNat_ofNat']
  congr 2
  omega
/-- Digits, the lowest first, as the bytes that are told. -/
def outs (L : List UInt8) : List UInt8 := (L.tail.map up).reverse ++ L.take 1
theorem outs_one (c : UInt8) : outs [c] = [c] := rfl
theorem outs_snoc (L : List UInt8) (c : UInt8) (h : L ≠ []) : outs (L ++ [c]) = up c :: outs L := by
  match L, h with
  | a :: r, _ => simp [outs]
theorem outs_drop (L : List UInt8) (k : Nat) (hk : k < L.length) : ((L.drop k).map up).reverse = ((L.drop (k + 1)).map up).reverse ++ [up L[k]] := by
  rw [List.drop_eq_getElem_cons hk, List.map_cons, List.reverse_cons]

/-- What is known while the digits are gathered: m is left, L are gathered. -/
def Gath (N m : Nat) (L : List UInt8) : Prop := m < 128 ^ (9 - L.length) ∧ L.length ≤ 8 ∧ (L = [] → m = N) ∧ (L ≠ [] → 0 < m ∧ wput N = hi m ++ outs L)
theorem gath_start (N : Nat) (h : N ≤ 9223372036854775807) : Gath N N [] := ⟨by simp; omega, by simp, fun _ => rfl, fun h => absurd rfl h⟩
theorem gath_step {N m : Nat} {L : List UInt8} (h : Gath N m L) : L.length + 1 ≤ 9 ∧ wput N = hi (m / 128) ++ outs (L ++ [UInt8.ofNat (m % 128)]) ∧ (0 < m / 128 → Gath N (m / 128) (L ++ [UInt8.ofNat (m % 128)])) := by
  obtain ⟨h1, h2, h3, h4⟩ := h
  have key : wput N = hi (m / 128) ++ outs (L ++ [UInt8.ofNat (m % 128)]) := by
    by_cases hL : L = []
    · rw [h3 hL, hL]
      rfl
    · obtain ⟨h5, h6⟩ := h4 hL
      rw [outs_snoc L _ hL, h6, hi_pos m (by omega), up_of]
      simp
  refine ⟨by omega, key, fun hp => ⟨?_, ?_, fun h => absurd h (by simp), fun _ => ⟨hp, key⟩⟩⟩
  · have e : 9 - L.length = (9 - (L.length + 1)) + 1 := by omega
    rw [e, Nat.pow_succ] at h1
    simp only [List.length_append, List.length_singleton]
    rw [Nat.div_lt_iff_lt_mul (by decide)]
    exact h1
  · simp only [List.length_append, List.length_singleton]
    rcases Nat.lt_or_ge L.length 8 with h | h
    · omega
    · have e : 9 - L.length = 1 := by omega
      rw [e] at h1
      omega
theorem gath_end {N m : Nat} {L : List UInt8} (h : Gath N m L) (h0 : ¬ 0 < m / 128) : wput N = outs (L ++ [UInt8.ofNat (m % 128)]) := by
  have h1 := (gath_step h).2.1
  have e : m / 128 = 0 := by omega
  rw [e, hi_zero] at h1
  simpa using h1
end Go.Proofs.YtimmfcbpdnlfjaaDoor

namespace Go.Proofs.YtimmfcbpdnlfjaaDoor
open Go.RowKit Go.Sort

/-- The call hands back the slice v grown to the bytes l: in its old block, or in a new one; nothing else that was there has turned. -/
def Puts (w : World) (base : Nat) (v : Value) (l : List UInt8) (e : Ending) (w' : World) : Prop := ∃ v', e = .returned v' ∧ Own w' base v' l ∧ w.grownBy w' v.ownBlock ∧ Lies w v v'

theorem grown_lies {w a b : World} {v v1 : Value} (h1 : w.grownBy a v.ownBlock) (hl : Lies w v v1) (h2 : a.grownBy b v1.ownBlock) : w.grownBy b v.ownBlock := by
  refine ⟨h2.os.trans h1.os, h2.tape.trans h1.tape, h2.output.trans h1.output, Nat.le_trans h1.size h2.size, fun k hk hne => ?_⟩
  rw [h2.block k (Nat.lt_of_lt_of_le hk h1.size) ?_, h1.block k hk hne]
  rcases hl with hl | ⟨g, hl, hg⟩
  · rw [hl]; exact hne
  · rw [hl]
    intro h
    injection h with h
    omega
theorem lies_trans {w a : World} {v v1 v2 : Value} (hs : w.heap.size ≤ a.heap.size) (h1 : Lies w v v1) (h2 : Lies a v1 v2) : Lies w v v2 := by
  rcases h2 with h2 | ⟨g, h2, hg⟩
  · rcases h1 with h1 | ⟨g, h1, hg⟩
    · exact .inl (h2.trans h1)
    · exact .inr ⟨g, h2.trans h1, hg⟩
  · exact .inr ⟨g, h2, by omega⟩
theorem lies_refl (w : World) (v : Value) : Lies w v v := .inl rfl
theorem grown_of_below {w a : World} (h : Below w.heap.size w a) (row : Option Nat) : w.grownBy a row := ⟨h.os, h.tape, h.output, h.size, fun k hk _ => h.block k hk⟩
theorem grown_alloc {w a : World} {row : Option Nat} (h : w.grownBy a row) (o : Obj) : w.grownBy (a.alloc o) row :=
  ⟨h.os, h.tape, h.output, Nat.le_trans h.size (by simp), fun k hk hne => (Below.heap_alloc a o k (Nat.lt_of_lt_of_le hk h.size)).trans (h.block k hk hne)⟩

theorem ofInt_i64 (a : Nat) (ha : a < 9223372036854775808) : (BitVec.ofInt 64 (a : Int)).toNat = a := by
  rw [BitVec.ofInt_natCast, BitVec.toNat_ofNat]; exact Nat.mod_eq_of_lt (by omega)
theorem i64_and_127 (a : Nat) (ha : a < 9223372036854775808) : bits .and .i64 (a : Int) 127 = ((a % 128 : Nat) : Int) := by
  show IntKind.i64.wrap ((BitVec.ofInt 64 (a : Int) &&& BitVec.ofInt 64 127).toNat : Int) = _
  have e : (BitVec.ofInt 64 127).toNat = 2 ^ 7 - 1 := by decide
  rw [BitVec.toNat_and, ofInt_i64 a ha, e, Nat.and_two_pow_sub_one_eq_mod, IntKind.wrap_i64]
  omega

def mB : Value → Nat | .bool true => 1 | _ => 0

def PutRel1 (N : Nat) (w : World) (v1 v5 v6 : Value) (wr : World) : Prop :=
  ∃ (m : Nat) (ok : Bool) (L : List UInt8) (vL : Value), v1 = .int .i64 m ∧ v6 = .bool ok ∧ v5 = vL ∧ Own wr w.heap.size vL L ∧ Below w.heap.size w wr ∧ (ok = true → Gath N m L) ∧ (ok = false → L ≠ [] ∧ L.length ≤ 9 ∧ wput N = outs L) ∧ m ≤ 9223372036854775807

theorem u8_or_128 : ∀ x : Nat, x < 256 → bits .or .u8 (x : Int) 128 = ((128 + x % 128 : Nat) : Int) := by decide +kernel

theorem putRel1_step {N m : Nat} {L : List UInt8} {w w1 : World} {v' : Value} (G : Gath N m L) (hown : Own w1 w.heap.size v' (L ++ [UInt8.ofNat (m % 128)])) (hb : Below w.heap.size w w1) (hm : m ≤ 9223372036854775807) :
    PutRel1 N w (.int .i64 ((m : Int) / 128)) v' (.bool (decide (0 < (m : Int) / 128))) w1 := by
  refine ⟨m / 128, decide (0 < (m : Int) / 128), _, v', by go_num, rfl, rfl, hown, hb, ?_, ?_, by omega⟩
  · intro h
    exact (gath_step G).2.2 (by simp at h; omega)
  · intro h
    exact ⟨by simp, by have := (gath_step G).1; simp; omega, gath_end G (by simp at h; omega)⟩

/-- The second loop: the bytes ahead of the last one are laid, from the highest on. -/
def PutRel2 (w : World) (base : Nat) (v : Value) (l L : List UInt8) (g cap : Nat) (v0 v7 : Value) (wr : World) : Prop :=
  ∃ k : Nat, k < L.length ∧ v7 = .int .i64 k ∧ Own wr base v0 (l ++ ((L.drop (k + 1)).map up).reverse) ∧ Own wr w.heap.size (.slice (some ⟨g, 0, none⟩) L.length cap) L ∧ w.grownBy wr v.ownBlock ∧ Lies w v v0 ∧ v0.ownBlock ≠ some g

theorem putRel2_keep {w wr w1 : World} {v v0 v' : Value} {L : List UInt8} {g cap : Nat} (hL : Own wr w.heap.size (.slice (some ⟨g, 0, none⟩) L.length cap) L) (hgb : w.grownBy wr v.ownBlock) (hl : Lies w v v0) (hne : v0.ownBlock ≠ some g)
    (hg : wr.grownBy w1 v0.ownBlock) (hlies : Lies wr v0 v') :
    Own w1 w.heap.size (.slice (some ⟨g, 0, none⟩) L.length cap) L ∧ w.grownBy w1 v.ownBlock ∧ Lies w v v' ∧ v'.ownBlock ≠ some g := by
  have hlt := (hL.lt g rfl).2
  refine ⟨hL.kept hg (.inr (Ne.symm hne)), grown_lies hgb hl hg, lies_trans hgb.size hl hlies, ?_⟩
  rcases hlies with h | ⟨g', h, hle⟩
  · rw [h]; exact hne
  · rw [h]
    intro he
    injection he with he
    omega

end Go.Proofs.YtimmfcbpdnlfjaaDoor

namespace Go.Proofs.YtimmfcbpdnlfjaaDoor
open Go.RowKit Go.Lib

theorem strCells_vb (s : ByteArray) : strCells s = s.data.toList.map vb := rfl

theorem lies_string {P : Program} (w : World) (base : Nat) (t u ty e : TypeId) (i : TypeInfo) (ht : P.underlying t = some (.slice e)) (hu : P.underlying u = some .string) (hi : P.info? e = some i) (hz : i.zero = some (.int .u8 0))
    (hsize : i.size = 1) (hby : i.bytes = 1) (v : Value) (n : Nat) (xs : List Value) (hown : w.ownsRow base e 1 v n xs) (s : ByteArray) (hbytes : n + s.size ≤ 140737488355328) {v' : Value} {w' : World}
    (hr : (Builtin.append_ #[t, u] ty #[v, .string s]).run P w = .ok v' w') (hnil : v' = .slice none 0 0 ↔ v = .slice none 0 0 ∧ s.size = 0) : Lies w v v' := by
  have hxl : xs.length = n := by simpa using hown.1
  rcases hown.2 with ⟨rfl, rfl⟩ | ⟨g, cap, cur, rfl, hbg, hg, hnc, hcm, hcs, htake⟩
  · by_cases hm : s.size = 0
    · rw [hnil.2 ⟨rfl, hm⟩]; exact .inl rfl
    · have h := run_append_nil_string (P := P) w t u ty e i (.int .u8 0) ht hu hi hz s (by omega) (by omega) (by rw [hby]; omega)
      rw [hr] at h
      injection h with h _
      rw [h]
      exact .inr ⟨_, rfl, Nat.le_refl _⟩
  · by_cases hroom : n + s.size ≤ cap
    · have hcs' : cur.size = cap := by simpa using hcs
      have h := run_append_room_string (P := P) w t u ty e i ht hu hi hsize g n cap cur hg s hroom (by omega)
      rw [hr] at h
      injection h with h _
      rw [h]
      exact .inl rfl
    · have holds : ∀ j u, xs[j]? = some u → w.cell? ((⟨g, 0, none⟩ : Addr).add j) = some u := hown.cells (g := g) rfl
      have h := run_append_grow_string (P := P) w t u ty e i (.int .u8 0) ht hu hi hz ⟨g, 0, none⟩ n cap xs (by rw [hsize]; simpa using hxl) holds s (by omega) (by omega) (by rw [hby]; exact growslice_fits (by omega) (by omega))
      rw [hr] at h
      injection h with h _
      rw [h]
      exact .inr ⟨_, rfl, Nat.le_refl _⟩

/-- 'append(b, s...)', b the call's own, s a text. -/
theorem append_text {ops : Array Oper} {rest : List Oper} {o : Oper} {a : Act} {Q : Exit → Act → World → Prop} (w : World) (hgd : o.guard = none) (sl x : Operand)
    (ho : o.op = .call { callee := .builtin .append, args := #[sl, x], argTypes := #[59, 9] }) (base : Nat) (v : Value) (l : List UInt8) (hs : a.eval sl = v) (hown : Own w base v l)
    (s : ByteArray) (hx : a.eval x = .string s) (hlen : l.length + s.size ≤ 140737488355328) (hbase : base ≤ w.heap.size)
    (h : ∀ v' w', Own w' base v' (l ++ s.data.toList) → w.grownBy w' v.ownBlock → Lies w v v' → wpList Tryd.prog ops Q rest (a.put o.dst v') w') : wpList Tryd.prog ops Q (o :: rest) a w := by
  obtain ⟨i0, hi, hz0, hz1, hz2⟩ := info_parts info_u8
  refine wpList_plain hgd fun K hK => ?_
  obtain ⟨v', w', hr, h2, h3, h4⟩ := run_append_own_string (P := Tryd.prog) w base 59 9 o.type 5 i0 Tryd.underlying59 Tryd.underlying9 hi hz0 hz1 hz2 v l.length (l.map vb) hown s (by simp only [maxLen]; omega) hlen hbase
  have hl := lies_string w base 59 9 o.type 5 i0 Tryd.underlying59 Tryd.underlying9 hi hz0 hz1 hz2 v l.length (l.map vb) hown s hlen hr h4
  unfold Oper.wp execOp
  simp only [ho, resolve, invoke, builtin, Sem.run_bind, Sem.run_pure, Result.andThen_ok, List.map_toArray, List.map_cons, List.map_nil, hs, hx, hr]
  refine hK _ _ (h v' w' ?_ h3 hl)
  unfold Own
  rw [List.map_append, List.length_append, Array.length_toList]
  exact h2
end Go.Proofs.YtimmfcbpdnlfjaaDoor

namespace Go.Proofs.YtimmfcbpdnlfjaaDoor
open Go.RowKit Go.Sort

/-- A text's bytes: how many it has, and these. -/
def wtext (l : List UInt8) : List UInt8 := wput l.length ++ l

theorem Puts.next {w a b : World} {base : Nat} {v v1 : Value} {l : List UInt8} {e : Ending} (h1 : w.grownBy a v.ownBlock) (hl : Lies w v v1) (h2 : Puts a base v1 l e b) : Puts w base v l e b := by
  obtain ⟨v', he, ho, hg, hs⟩ := h2
  exact ⟨v', he, ho, grown_lies h1 hl hg, lies_trans h1.size hl hs⟩

/-- The reference's Put: by induction on how often it calls itself. -/
theorem ref_step (n : Nat) (h : ¬ n < 128) : ∃ i c, wput (n / 128) = i ++ [c] ∧ wput n = i ++ [up c] ++ [UInt8.ofNat (n % 128)] := by
  refine ⟨hi (n / 128 / 128), UInt8.ofNat (n / 128 % 128), rfl, ?_⟩
  unfold wput
  rw [hi_pos (n / 128) (by omega), up_of]
theorem wput_lo (n : Nat) (h : n < 128) : wput n = [UInt8.ofNat n] := by
  unfold wput
  have e : n / 128 = 0 := by omega
  have e2 : n % 128 = n := by omega
  rw [e, e2, hi_zero]; rfl

end Go.Proofs.YtimmfcbpdnlfjaaDoor
