/- Contracts of wire.Text, of the reference's Put and Text, of wire.New. Lengths are at most 2^47 less a little. -/
import Derived.Test.YtedegdojbhegdaaDoorWireA
import Derived.Test.YtedegdojbhegdaaDoorOwnStr
namespace Go.Proofs.YtedegdojbhegdaaDoor
open Go.RowKit Go.Sort

/-- A text's bytes: how many it has, and these. -/
def wtext (l : List UInt8) : List UInt8 := wput l.length ++ l

theorem Puts.next {w a b : World} {base : Nat} {v v1 : Value} {l : List UInt8} {e : Ending} (h1 : w.grownBy a v.ownBlock) (hl : Lies w v v1) (h2 : Puts a base v1 l e b) : Puts w base v l e b := by
  obtain ⟨v', he, ho, hg, hs⟩ := h2
  exact ⟨v', he, ho, grown_lies h1 hl hg, lies_trans h1.size hl hs⟩

set_option maxRecDepth 100000 in
set_option maxHeartbeats 1000000 in
theorem wire_Text (w : World) (base : Nat) (v : Value) (l : List UInt8) (s : ByteArray) (hown : Own w base v l) (hbase : base ≤ w.heap.size) (hlen : l.length + s.size ≤ 140737488355000) :
    Calls Tryd.prog 88 #[v, .string s] w (Puts w base v (l ++ wtext s.data.toList)) := by
  have hsl : s.data.toList.length = s.size := Array.length_toList
  have hwl := wput_length s.size (by omega)
  have HO := Lib.hid hown
  have HS := Lib.hid hsl
  clear hown hsl
  go_enter Tryd.func88, Tryd.ntmps88
  go_wp2_with (first
    | (go_at_call 95; refine (wire_Put _ base v l _ HO.out hbase (by omega) (by omega)).mono ?_; rintro e w1 ⟨v1, rfl, hown1, hg1, hl1⟩)
    | (at_builtin; (refine append_text _ rfl _ _ rfl base v1 _ rfl hown1 s rfl (by simp [wputI]; omega) (Nat.le_trans hbase hg1.size) ?_); intro v2 w2 hown2 hg2 hl2))
  go_ret
  refine ⟨v2, rfl, ?_, grown_lies hg1 hl1 hg2, lies_trans hg1.size hl1 hl2⟩
  unfold wtext
  rw [HS.out]
  simpa [wputI] using hown2

/-- The reference's Put: by induction on how often it calls itself. -/
theorem ref_step (n : Nat) (h : ¬ n < 128) : ∃ i c, wput (n / 128) = i ++ [c] ∧ wput n = i ++ [up c] ++ [UInt8.ofNat (n % 128)] := by
  refine ⟨hi (n / 128 / 128), UInt8.ofNat (n / 128 % 128), rfl, ?_⟩
  unfold wput
  rw [hi_pos (n / 128) (by omega), up_of]
theorem wput_lo (n : Nat) (h : n < 128) : wput n = [UInt8.ofNat n] := by
  unfold wput
  have e : n / 128 = 0 := by omega
  have e2 : n % 128 = n := by omega
  rw [e, e2, hi_zero]; rfl

end Go.Proofs.YtedegdojbhegdaaDoor
