/- The walk of the law WirePuts: it returns true, and nothing that was there ahead of the call has turned. Conditions: what every slice and every text meets. -/
import Derived.Test.YtnaaknkknhediaaWireC
namespace Go.Proofs.Ytnaaknkknhediaa
open Go.RowKit Go.Sort

theorem own_two (w : World) (base : Nat) (hb : base ≤ w.heap.size) (a b : UInt8) (x y : Value) (hx : x = vb a) (hy : y = vb b) : Own (w.alloc (.cells #[x, y] 5)) base (.slice (some ⟨w.heap.size, 0, none⟩) 2 2) [a, b] := by
  subst hx hy
  exact ⟨rfl, .inr ⟨w.heap.size, 2, #[vb a, vb b], rfl, hb, heap_alloc_new w _, by simp, by decide, rfl, rfl⟩⟩

theorem wput_300 : wputI 300 = [130, 44] := by
  simp [wputI, wput, hi]

theorem below_of_puts_nil {w w' : World} (h : w.grownBy w' (Value.ownBlock (.slice none 0 0))) : Below w.heap.size w w' := ⟨h.os, h.tape, h.output, h.size, fun k hk => h.block k hk (by simp [Value.ownBlock])⟩

set_option maxRecDepth 100000 in
set_option maxHeartbeats 1000000 in
theorem alive03 (w : World) : Calls Try.prog 35 #[] w fun e w' => e = .returned (.bool true) ∧ Below w.heap.size w w' := by
  have H3 := Lib.hid wput_300
  go_enter Try.func35, Try.ntmps35
  go_wp2_with fail
  refine (wire_Put w w.heap.size _ [] 300 (Own.nil_ _ _) (Nat.le_refl _) (by omega) (by simp)).mono ?_
  rintro e w1 ⟨v1, rfl, o1, g1, l1⟩
  rw [H3.out, List.nil_append] at o1
  have hB := below_of_puts_nil g1
  clear g1 l1
  go_wp2_with fail
  refine (own_Equal (o1.alloc _) (own_two w1 w.heap.size hB.size 130 44 _ _ rfl rfl) (by simp)).mono ?_
  rintro e w2 ⟨rfl, b2⟩
  have hB2 := (hB.alloc hB.size (.cells #[.int .u8 130, .int .u8 44] 5)).trans (b2.mono (by have := hB.size; simp; omega))
  clear hB b2 o1
  go_wp2_with fail
  refine (wire_New _ _ _ _).mono ?_
  rintro e w3 ⟨rfl, rfl⟩
  go_wp2_with fail
  go_ret
  exact ⟨rfl, hB2.alloc hB2.size _⟩

set_option maxRecDepth 100000 in
set_option maxHeartbeats 1000000 in
theorem wire_puts_walk (w : World) (A : Option Addr) (n c : Nat) (l : List UInt8) (_ : n ≤ c) (_ : c ≤ maxLen) (_ : l.length = n) (hr : Reads w w.heap.size 1 A n (l.map vb)) (hA : A = none → c = 0)
    (m : Int) (wm : (Lit.int .i64 m).wf = true) (s : ByteArray) (_ : s.size ≤ maxLen) :
    Calls Try.prog 6 #[.slice A n c, .int .i64 m, .string s] w fun e w' => e = .returned (.bool true) ∧ Below w.heap.size w w' := by
  have hm : m ≤ 9223372036854775807 := (bounds_i64 wm).2
  have hln := hr.len
  by_cases h1 : 1000 < n
  · have hm2 : c ≤ 9223372036854775807 := by simpa [maxLen] using ‹c ≤ maxLen›
    have hd : decide (1000 < (n : Int)) = true := by simp; omega
    clear hr hln wm
    go_enter Try.func6, Try.ntmps6
    go_wp2_with fail
    go_ret
    exact ⟨rfl, Below.refl _ _⟩
  by_cases h2 : 1000 < s.size
  · clear hr hln wm
    go_enter Try.func6, Try.ntmps6
    go_wp2_with fail
    go_ret
    exact ⟨rfl, Below.refl _ _⟩
  have hwl := wput_length m.toNat (by omega)
  have hsl : s.data.toList.length = s.size := Array.length_toList
  have hwt : (wtext s.data.toList).length ≤ 1009 := by
    have := wput_length s.data.toList.length (by omega)
    simp [wtext] at *; omega
  have HR := Lib.hid hr
  have HL := Lib.hid hln
  have HA := Lib.hid hA
  have HWT := Lib.hid hwt
  have HWL := Lib.hid hwl
  clear hr hln wm hA hsl hwt hwl
  go_enter Try.func6, Try.ntmps6
  go_wp2_with fail
  refine (bytes_Clone A n c l _ HR.out HA.out (by omega)).mono ?_
  rintro e w1 ⟨v1, rfl, o1, b1⟩
  go_wp2_with fail
  refine (ref03_Put _ _ hm).mono ?_
  rintro e w2 ⟨v2, rfl, o2, b2⟩
  obtain ⟨A2, c2, rfl, _, r2⟩ := o2.reads
  go_wp2_with (at_builtin; go_must (refine append_bytes _ rfl _ _ rfl w.heap.size v1 l rfl (o1.below b2) A2 _ c2 (wputI m) rfl r2 (by have := HL.out; have := HWL.out; unfold wputI; omega) (by have := b1.size; have := b2.size; omega) ?_); intro vx w3 ox gx lx)
  have hB3 : Below w.heap.size w w3 := Below.grown (b1.trans (b2.mono b1.size)) gx (by have := b1.size; have := b2.size; omega) fun k hk => (o1.lt k hk).1
  clear o1 o2 r2 gx lx b1 b2
  refine (bytes_Clone A n c l _ ((HR.out.below hB3).more hB3.size) HA.out (by omega)).mono ?_
  rintro e w4 ⟨v4, rfl, o4, b4⟩
  go_wp2_with fail
  refine (ref03_Text s _ (by omega)).mono ?_
  rintro e w5 ⟨v5, rfl, o5, b5⟩
  obtain ⟨A5, c5, rfl, _, r5⟩ := o5.reads
  go_wp2_with (at_builtin; go_must (refine append_bytes _ rfl _ _ rfl w3.heap.size v4 l rfl (o4.below b5) A5 _ c5 (wtext s.data.toList) rfl r5 (by have := HL.out; have := HWT.out; omega) (by have := b4.size; have := b5.size; omega) ?_); intro vy w6 oy gy ly)
  have hB6 : Below w3.heap.size w3 w6 := Below.grown (b4.trans (b5.mono b4.size)) gy (by have := b4.size; have := b5.size; omega) fun k hk => (o4.lt k hk).1
  replace ox := ox.below hB6
  have hBw6 := hB3.trans (hB6.mono hB3.size)
  clear o4 o5 r5 gy ly b4 b5 hB6 hB3
  refine (bytes_Clone A n c l _ ((HR.out.below hBw6).more hBw6.size) HA.out (by omega)).mono ?_
  rintro e w7 ⟨v7, rfl, o7, b7⟩
  go_wp2_with fail
  refine (wire_Put _ w6.heap.size v7 l m o7 b7.size hm (by have := HL.out; omega)).mono ?_
  rintro e w8 ⟨v8, rfl, o8, g8, l8⟩
  have hB8 : Below w6.heap.size w6 w8 := Below.grown b7 g8 b7.size fun k hk => (o7.lt k hk).1
  replace ox := ox.below hB8
  replace oy := oy.below hB8
  have hBw8 := hBw6.trans (hB8.mono hBw6.size)
  clear o7 g8 l8 b7 hB8 hBw6
  go_wp2_with fail
  refine (own_Equal o8 ox (by have := HL.out; have := HWL.out; simp [wputI]; omega)).mono ?_
  rintro e w9 ⟨rfl, b9⟩
  replace oy := oy.below b9
  have hBw9 := hBw8.trans (b9.mono hBw8.size)
  clear o8 ox b9 hBw8
  go_wp2_with fail
  refine (bytes_Clone A n c l _ ((HR.out.below hBw9).more hBw9.size) HA.out (by omega)).mono ?_
  rintro e w10 ⟨v10, rfl, o10, b10⟩
  go_wp2_with fail
  refine (wire_Text _ w9.heap.size v10 l s o10 b10.size (by have := HL.out; omega)).mono ?_
  rintro e w11 ⟨v11, rfl, o11, g11, l11⟩
  have hB11 : Below w9.heap.size w9 w11 := Below.grown b10 g11 b10.size fun k hk => (o10.lt k hk).1
  replace oy := oy.below hB11
  have hBw11 := hBw9.trans (hB11.mono hBw9.size)
  clear o10 g11 l11 b10 hB11 hBw9
  go_wp2_with fail
  refine (own_Equal o11 oy (by have := HL.out; have := HWT.out; simp; omega)).mono ?_
  rintro e w12 ⟨rfl, b12⟩
  have hBw12 := hBw11.trans (b12.mono hBw11.size)
  clear o11 oy b12 hBw11
  go_wp2_with fail
  refine (alive03 _).mono ?_
  rintro e w13 ⟨rfl, b13⟩
  go_wp2_with fail
  go_ret
  exact ⟨rfl, hBw12.trans (b13.mono hBw12.size)⟩
end Go.Proofs.Ytnaaknkknhediaa
