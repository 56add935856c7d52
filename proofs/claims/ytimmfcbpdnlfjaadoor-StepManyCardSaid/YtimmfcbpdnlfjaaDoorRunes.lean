/- Going through a text rune by rune, in whatever memory. No program is named here, and nothing is assumed. The runes of a text, in order. No program is named here, and nothing is assumed. -/
import Derived.Test.YtimmfcbpdnlfjaaDoorWords
import Derived.Lib.OthersKept
import Derived.Laws.Cover4
import Derived.Laws.IdiomStrings
namespace Go.Proofs.YtimmfcbpdnlfjaaDoor
open Go.RowKit Go.Lib

theorem alloc_size (w : World) (o : Obj) : (w.alloc o).heap.size = w.heap.size + 1 := by simp

/-- Block k goes through the text s, and stands at place p. -/
def It (w : World) (k : Nat) (s : ByteArray) (p : Nat) : Prop := w.heap[k]? = some (.stringIter s p)

section
variable {w w' : World} {k g p : Nat} {s : ByteArray} {t : TypeId} {cs : Array Value}
theorem It.lt (h : It w k s p) : k < w.heap.size := (Array.getElem?_eq_some_iff.1 h).1
theorem It.new (w : World) (s : ByteArray) (p : Nat) : It (w.iter s p) w.heap.size s p := World.iter_heap w s p
theorem It.alloc (h : It w k s p) (o : Obj) : It (w.alloc o) k s p := (Below.heap_alloc w o k h.lt).trans h
theorem It.far (h : It w k s p) {a : Addr} (hp : k ≠ a.block) (u : Value) : It (w.setCell a u) k s p := (Below.heap_setCell w a u k hp).trans h
theorem It.below (h : It w k s p) {B : Nat} (hb : Below B w w') (hg : k < B) : It w' k s p := (hb.block k hg).trans h
theorem It.grown (h : It w k s p) {row : Option Nat} (hb : w.grownBy w' row) (hg : some k ≠ row) : It w' k s p := (hb.block k h.lt hg).trans h
theorem It.drewN (h : It w k s p) (n : Nat) : It (w.drewN n) k s p := h
theorem It.at_ (h : It w k s p) (p' : Nat) : It (w.iterAt k s p') k s p' := iterAt_heap w k s p p' h
theorem It.pos (h : It w k s p) : w.iterPos k = p := by unfold World.iterPos; rw [h]
theorem It.ne (h : It w k s p) (hb : Blk w g t cs) : g ≠ k := by
  rintro rfl
  unfold Blk at hb
  unfold It at h
  rw [h] at hb
  cases hb
theorem Blk.iterAt (h : Blk w g t cs) (hne : g ≠ k) (s : ByteArray) (p' : Nat) : Blk (w.iterAt k s p') g t cs := (iterAt_other w k g s p' hne).trans h
theorem Blk.iter (h : Blk w g t cs) (s : ByteArray) (p' : Nat) : Blk (w.iter s p') g t cs := h.alloc _
theorem below_iter {B : Nat} {a w : World} (h : Below B a w) (hB : B ≤ w.heap.size) (s : ByteArray) (p' : Nat) : Below B a (w.iter s p') := h.alloc hB _
theorem own_iterAt {base e size n : Nat} {v : Value} {xs : List Value} (h : w.ownsRow base e size v n xs) (hk : It w k s p) (p' : Nat) : (w.iterAt k s p').ownsRow base e size v n xs := by
  refine ⟨h.1, ?_⟩
  rcases h.2 with h2 | ⟨g, cap, cur, hv, hbg, hg, r⟩
  · exact .inl h2
  · refine .inr ⟨g, cap, cur, hv, hbg, ?_, r⟩
    have hne : g ≠ k := by
      rintro rfl
      unfold It at hk
      rw [hk] at hg
      cases hg
    exact (iterAt_other w k g s p' hne).trans hg
end

/-- The rune at a place, and how many bytes it takes. -/
theorem decode_some (s : ByteArray) (k : Nat) (h : k < s.size) : ∃ r d : Nat, Utf8.decode s k = (r, d) ∧ 1 ≤ d ∧ r ≤ 2147483647 ∧ ((s[k].toNat < 128 ∧ r = s[k].toNat ∧ d = 1) ∨ (128 ≤ s[k].toNat ∧ 128 ≤ r)) := by
  rcases hD : Utf8.decode s k with ⟨r, d⟩
  refine ⟨r, d, rfl, ?_⟩
  by_cases ha : s[k].toNat < 128
  · have h1 := decode_ascii s k h ha
    rw [hD] at h1
    injection h1 with h1 h2
    exact ⟨by omega, by omega, .inl ⟨ha, h1, h2⟩⟩
  · have h1 := decode_high s k h (by omega)
    have h2 := decode_le s k
    rw [hD] at h1 h2
    exact ⟨h1.2, h2, .inr ⟨by omega, h1.1⟩⟩

/-- The bytes of a text, as a list. -/
def bl (b : ByteArray) : List UInt8 := b.data.toList
theorem bl_length (b : ByteArray) : (bl b).length = b.size := Array.length_toList
theorem bl_is (b : ByteArray) : b = ⟨(bl b).toArray⟩ := by cases b; rfl
theorem bl_mk (l : List UInt8) : bl ⟨l.toArray⟩ = l := rfl
/-- A rune's bytes. -/
def enc (r : Nat) : List UInt8 := bl (Utf8.encode (r : Int))
theorem enc_length (r : Nat) : (enc r).length ≤ 4 := by
  have h := encode_size_le (r : Int)
  rw [← bl_length] at h
  exact h
theorem encode_small (c : UInt8) (h : c.toNat < 128) : Utf8.encode (c.toNat : Int) = ⟨#[c]⟩ := by
  have hv : Utf8.valid (c.toNat : Int) = true := by
    unfold Utf8.valid
    have h1 : decide (0 ≤ (c.toNat : Int)) = true := by simp
    have h2 : decide ((c.toNat : Int) < 55296) = true := by simp; omega
    rw [h1, h2]
    rfl
  unfold Utf8.encode
  simp only [hv, if_true, Int.toNat_natCast, h, UInt8.ofNat_toNat]
theorem enc_ascii (c : UInt8) (h : c.toNat < 128) : enc c.toNat = [c] := by
  unfold enc
  rw [encode_small c h]
  rfl
theorem encode_great (r : Nat) (h : 128 ≤ r) : ∃ (m : List UInt8) (c : UInt8), Utf8.encode (r : Int) = ⟨(m ++ [c]).toArray⟩ ∧ 128 ≤ c.toNat := by
  unfold Utf8.encode
  simp only
  have hc : ¬ (if Utf8.valid (r : Int) = true then (r : Int).toNat else Utf8.runeError) < 128 := by
    split
    · omega
    · unfold Utf8.runeError; omega
  rw [if_neg hc]
  generalize (if Utf8.valid (r : Int) = true then (r : Int).toNat else Utf8.runeError) = x
  repeat' split
  · exact ⟨[_], UInt8.ofNat (128 + x % 64), rfl, by rw [UInt8.toNat_ofNat']; omega⟩
  · exact ⟨[_, _], UInt8.ofNat (128 + x % 64), rfl, by rw [UInt8.toNat_ofNat']; omega⟩
  · exact ⟨[_, _, _], UInt8.ofNat (128 + x % 64), rfl, by rw [UInt8.toNat_ofNat']; omega⟩
theorem enc_high (r : Nat) (h : 128 ≤ r) : ∃ c ∈ enc r, 128 ≤ c.toNat := by
  obtain ⟨m, c, he, hc⟩ := encode_great r h
  refine ⟨c, ?_, hc⟩
  unfold enc
  rw [he, bl_mk]
  simp
theorem enc_is (r : Nat) : Utf8.encode (r : Int) = ⟨(enc r).toArray⟩ := bl_is _
end Go.Proofs.YtimmfcbpdnlfjaaDoor

namespace Go.Proofs.YtimmfcbpdnlfjaaDoor
open Go.RowKit Go.Lib

def rns (s : ByteArray) : Nat → Nat → List Nat
  | 0, _ => []
  | f + 1, i => if i < s.size then (Utf8.decode s i).1 :: rns s f (i + (Utf8.decode s i).2) else []
theorem rns_end (s : ByteArray) (f i : Nat) (h : s.size ≤ i) : rns s f i = [] := by
  cases f with
  | zero => rfl
  | succ f => rw [rns, if_neg (by omega)]
theorem rns_fuel (s : ByteArray) : ∀ (f i : Nat), s.size - i ≤ f → rns s f i = rns s (s.size - i) i
  | 0, i, h => by rw [show s.size - i = 0 by omega]
  | f + 1, i, h => by
    by_cases hi : i < s.size
    · obtain ⟨r, d, hD, hd, _⟩ := decode_some s i hi
      have e : s.size - i = (s.size - i - 1) + 1 := by omega
      rw [e, rns, rns, if_pos hi, if_pos hi, hD]
      simp only
      rw [rns_fuel s f (i + d) (by omega)]
      by_cases h1 : i + d < s.size
      · rw [← rns_fuel s (s.size - i - 1) (i + d) (by omega)]
      · rw [rns_end s _ _ (by omega), rns_end s _ _ (by omega)]
    · rw [rns_end s _ _ (by omega), rns_end s _ _ (by omega)]
  termination_by f _ => f
/-- The runes from a place on. -/
def rest (s : ByteArray) (k : Nat) : List Nat := rns s (s.size - k) k
theorem rest_cons (s : ByteArray) (k : Nat) (h : k < s.size) {r d : Nat} (hD : Utf8.decode s k = (r, d)) (hd : 1 ≤ d) : rest s k = r :: rest s (k + d) := by
  unfold rest
  have e : s.size - k = (s.size - k - 1) + 1 := by omega
  rw [e, rns, if_pos h, hD]
  simp only
  by_cases h1 : k + d < s.size
  · rw [rns_fuel s (s.size - k - 1) (k + d) (by omega)]
  · rw [rns_end s _ _ (by omega), rns_end s _ _ (by omega)]
theorem rest_end (s : ByteArray) (k : Nat) (h : s.size ≤ k) : rest s k = [] := rns_end s _ _ h
theorem runesFrom_eq (s : ByteArray) : ∀ (f i : Nat) (acc : Array Value), Conv.runesFrom s f i acc = acc ++ ((rns s f i).map fun r : Nat => Value.int .i32 (r : Int)).toArray
  | 0, i, acc => by simp [Conv.runesFrom, rns]
  | f + 1, i, acc => by
    unfold Conv.runesFrom
    rw [rns]
    split
    · rcases hD : Utf8.decode s i with ⟨r, d⟩
      simp only
      rw [runesFrom_eq s f]
      simp
    · simp
theorem runes_all (s : ByteArray) : Conv.runesFrom s s.size 0 #[] = ((rest s 0).map fun r : Nat => Value.int .i32 (r : Int)).toArray := by
  rw [runesFrom_eq]
  unfold rest
  simp
theorem rns_length (s : ByteArray) : ∀ (f i : Nat), (rns s f i).length ≤ f
  | 0, _ => by simp [rns]
  | f + 1, i => by
    rw [rns]
    split
    · have := rns_length s f (i + (Utf8.decode s i).2)
      simp; omega
    · simp
theorem rest_length (s : ByteArray) (k : Nat) : (rest s k).length ≤ s.size - k := rns_length s _ _
theorem rns_le (s : ByteArray) : ∀ (f i r : Nat), r ∈ rns s f i → r ≤ 2147483647
  | 0, _, _, h => by simp [rns] at h
  | f + 1, i, r, h => by
    rw [rns] at h
    split at h
    · rcases List.mem_cons.1 h with h | h
      · rw [h]; exact decode_le s i
      · exact rns_le s f _ r h
    · simp at h
theorem rest_le (s : ByteArray) (k r : Nat) (h : r ∈ rest s k) : r ≤ 2147483647 := rns_le s _ _ r h
end Go.Proofs.YtimmfcbpdnlfjaaDoor
