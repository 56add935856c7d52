/- Contract of the reference's Text. -/
import Derived.Test.YthbhbechemnidaaDoorWireC
namespace Go.Proofs.YthbhbechemnidaaDoor
open Go.RowKit Go.Sort

set_option maxRecDepth 100000 in
set_option maxHeartbeats 1000000 in
theorem ref03_Text (s : ByteArray) (w : World) (hs : s.size ≤ 140737488355000) :
    Calls Tryd.prog 83 #[.string s] w (Fresh w (wtext s.data.toList)) := by
  have hsl : s.data.toList.length = s.size := Array.length_toList
  have hwl := wput_length s.size (by omega)
  have HS := Lib.hid hsl
  clear hsl
  go_enter Tryd.func83, Tryd.ntmps83
  go_wp2_with (first
    | (go_at_call 86; refine (ref03_Put _ _ (by omega)).mono ?_; rintro e w1 ⟨v1, rfl, hown1, hb1⟩)
    | (at_builtin; (refine append_text _ rfl _ _ rfl w.heap.size v1 _ rfl hown1 s rfl (by simp [wputI]; omega) hb1.size ?_); intro v2 w2 hown2 hg2 hl2))
  go_ret
  refine ⟨v2, rfl, ?_, Below.grown hb1 hg2 hb1.size fun k hk => (hown1.lt k hk).1⟩
  unfold wtext
  rw [HS.out]
  simpa [wputI] using hown2
end Go.Proofs.YthbhbechemnidaaDoor
