/- Contracts of the reference's Put and Text: a number's bytes, a text's bytes, in memory of the call's own. Contract of the reference's Text. -/
import Derived.Test.YthbhbechemnidaaDoorWireB
import Derived.Test.YthbhbechemnidaaDoorBytesA
namespace Go.Proofs.YthbhbechemnidaaDoor
open Go.RowKit Go.Sort

theorem Own.pos {w : World} {base : Nat} {v : Value} {i : List UInt8} {c : UInt8} (h : Own w base v (i ++ [c])) :
    ∃ g cap, v = .slice (some ⟨g, 0, none⟩) (i.length + 1) cap ∧ base ≤ g ∧ g < w.heap.size ∧ w.cell? ⟨g, i.length, none⟩ = some (.int .u8 (c.toNat : Int)) ∧ w.frozen? ⟨g, i.length, none⟩ = false := by
  rcases h.form with ⟨_, h0⟩ | ⟨g, cap, hv, h1, h2, _, _, hc⟩
  · simp at h0
  · refine ⟨g, cap, by simpa using hv, h1, h2, ?_, h.frozen (by rw [hv]; rfl) _⟩
    have := hc i.length (by simp)
    simpa using this
theorem Own.set_last {w : World} {base : Nat} {g n cap : Nat} {i : List UInt8} {c : UInt8} (h : Own w base (.slice (some ⟨g, 0, none⟩) n cap) (i ++ [c])) (d : UInt8) (u : Value) (hu : u = vb d) :
    Own (w.setCell ⟨g, i.length, none⟩ u) base (.slice (some ⟨g, 0, none⟩) n cap) (i ++ [d]) ∧ w.grownBy (w.setCell ⟨g, i.length, none⟩ u) (some g) := by
  subst hu
  rcases h.form with ⟨h0, _⟩ | ⟨g', cap', hv, _⟩
  · cases h0
  · injection hv with h1 h2 h3
    injection h1 with h1
    injection h1 with h1
    subst h1 h2 h3
    have hs := World.ownsRow.stored (cap := cap) (n := (i ++ [c]).length) h i.length (vb d)
    refine ⟨?_, hs.2⟩
    have e : ((i ++ [c]).map vb).set i.length (vb d) = (i ++ [d]).map vb := by simp
    have h4 := hs.1
    rw [e] at h4
    unfold Own
    simpa using h4

theorem append_byte_at {ops : Array Oper} {rest : List Oper} {o : Oper} {a : Act} {Q : Exit → Act → World → Prop} (w : World) (g0 : Nat) (hg0 : g0 = w.heap.size) (u : Value) (c : UInt8) (hu : u = vb c) (t : TypeId) (hgd : o.guard = none) (s x : Operand)
    (ho : o.op = .call { callee := .builtin .append, args := #[s, x], argTypes := #[52, 52] }) (base : Nat) (v : Value) (l : List UInt8) (hs : a.eval s = v) (hown : Own w base v l)
    (hx : a.eval x = .slice (some ⟨g0, 0, none⟩) 1 1) (hlen : l.length + 1 ≤ 140737488355328) (hbase : base ≤ w.heap.size)
    (h : ∀ v' w', Own w' base v' (l ++ [c]) → w.grownBy w' v.ownBlock → Lies w v v' → wpList Tryd.prog ops Q rest (a.put o.dst v') w') : wpList Tryd.prog ops Q (o :: rest) a (w.alloc (.cells #[u] t)) := by
  subst hg0
  exact append_byte w u c hu t hgd s x ho base v l hs hown hx hlen hbase h

set_option maxRecDepth 100000 in
set_option maxHeartbeats 1000000 in
theorem ref03_PutN (k : Nat) : ∀ (n : Nat) (w : World), n < 128 ^ (k + 1) → n ≤ 9223372036854775807 →
    Calls Tryd.prog 86 #[.int .i64 n] w (Fresh w (wput n)) := by
  induction k with
  | zero =>
    intro n w hk hm
    have h128 : n < 128 := by simpa using hk
    have hw := Lib.hid (wput_lo n h128)
    have F : Hid (Fresh w [UInt8.ofNat n] (.returned (.slice (some ⟨w.heap.size, 0, none⟩) 1 1)) (w.alloc (.cells #[.int .u8 n] 5))) := Lib.hid (by
      refine ⟨_, rfl, ?_, (Below.refl _ _).alloc (Nat.le_refl _) _⟩
      refine ⟨rfl, .inr ⟨w.heap.size, 1, #[.int .u8 n], rfl, Nat.le_refl _, heap_alloc_new w _, by simp, by decide, rfl, ?_⟩⟩
      simp [vb]; omega)
    clear hk
    go_enter Tryd.func86, Tryd.ntmps86
    go_wp2_with fail
    go_ret
    rw [hw.out]
    exact F.out
  | succ k ih =>
    intro n w hk hm
    by_cases h128 : n < 128
    · exact ih n w (Nat.lt_of_lt_of_le h128 (by rw [Nat.pow_succ]; exact Nat.le_mul_of_pos_left _ (Nat.pow_pos (by decide)))) hm
    · obtain ⟨i, c, e1, e2⟩ := ref_step n h128
      have hlen := wput_length (n / 128) (by omega)
      rw [e1] at hlen
      have hil : i.length ≤ 8 := by simpa using hlen
      have hc128 : c.toNat < 128 := by
        have h1 : c = UInt8.ofNat (n / 128 % 128) := by
          have h3 : wput (n / 128) = hi (n / 128 / 128) ++ [UInt8.ofNat (n / 128 % 128)] := rfl
          rw [e1] at h3
          exact (List.append_inj' h3 rfl).2 |> List.cons.inj |>.1
        rw [h1, UInt8.toNat_ofNat']
        omega
      have E1 := Lib.hid e1
      have E2 := Lib.hid e2
      have IH := Lib.hid (ih (n / 128) · (by rw [Nat.div_lt_iff_lt_mul (by decide)]; rw [Nat.pow_succ] at hk; exact hk) (by omega))
      clear e1 e2 ih hk hlen
      go_enter Tryd.func86, Tryd.ntmps86
      go_wp2_with (first
        | (go_at_call 86; go_must (refine (IH.out _).mono ?_); rintro e w1 ⟨v1, rfl, hown1, hb1⟩; rw [E1.out] at hown1; obtain ⟨g, cap, rfl, hg1, hg2, hcell, hfr⟩ := hown1.pos; have HO := Lib.hid hown1; clear hown1)
        | (at_builtin; go_must (refine append_byte_at _ w1.heap.size (by simp [World.setCell]) _ (UInt8.ofNat (n % 128)) (by simp [vb]; omega) _ rfl _ _ rfl w.heap.size (.slice (some ⟨g, 0, none⟩) (i.length + 1) cap) (i ++ [up c]) rfl (HO.out.set_last (up c) _ (by simp [vb, up_toNat]; omega)).1 rfl (by simp; omega) (by have := hb1.size; simp; omega) ?_); intro v2 w2 hown2 hgr2 hl2))
      go_ret
      rw [E2.out]
      refine ⟨v2, rfl, hown2, ?_⟩
      refine Below.grown (Below.setCell hb1 hg1 _) hgr2 (by have := hb1.size; simp; omega) ?_
      intro q hq
      have h5 : g = q := by simpa [Value.ownBlock] using hq
      omega

theorem ref03_Put (n : Int) (w : World) (hn : n ≤ 9223372036854775807) : Calls Tryd.prog 86 #[.int .i64 n] w (Fresh w (wputI n)) := by
  by_cases h0 : 0 ≤ n
  · obtain ⟨N, rfl⟩ := Int.eq_ofNat_of_zero_le h0
    exact ref03_PutN 9 N w (by omega) (by omega)
  · have e : wputI n = [0] := by
      unfold wputI
      have e0 : n.toNat = 0 := by omega
      rw [e0, wput_lo 0 (by decide)]; rfl
    have F : Hid (Fresh w [0] (.returned (.slice (some ⟨w.heap.size, 0, none⟩) 1 1)) (w.alloc (.cells #[.int .u8 0] 5))) := Lib.hid (by
      refine ⟨_, rfl, ?_, (Below.refl _ _).alloc (Nat.le_refl _) _⟩
      exact ⟨rfl, .inr ⟨w.heap.size, 1, #[.int .u8 0], rfl, Nat.le_refl _, heap_alloc_new w _, by simp, by decide, rfl, rfl⟩⟩)
    rw [e]
    clear e
    go_enter Tryd.func86, Tryd.ntmps86
    go_wp2_with fail
    go_ret
    exact F.out

/-- slices.Equal, of two slices that the call owns. -/
theorem own_Equal {w : World} {b1 b2 : Nat} {v1 v2 : Value} {l1 l2 : List UInt8} (h1 : Own w b1 v1 l1) (h2 : Own w b2 v2 l2) (hm : l1.length ≤ 9223372036854775807) :
    Calls Tryd.prog 34 #[v1, v2] w fun e w' => e = .returned (.bool (decide (l1 = l2))) ∧ Below w.heap.size w w' := by
  obtain ⟨A1, c1, rfl, _, r1⟩ := h1.reads
  obtain ⟨A2, c2, rfl, _, r2⟩ := h2.reads
  exact bytes_Equal A1 A2 _ _ c1 c2 l1 l2 w r1 r2 hm
end Go.Proofs.YthbhbechemnidaaDoor

namespace Go.Proofs.YthbhbechemnidaaDoor
open Go.RowKit Go.Sort

set_option maxRecDepth 100000 in
set_option maxHeartbeats 1000000 in
theorem ref03_Text (s : ByteArray) (w : World) (hs : s.size ≤ 140737488355000) :
    Calls Tryd.prog 83 #[.string s] w (Fresh w (wtext s.data.toList)) := by
  have hsl : s.data.toList.length = s.size := Array.length_toList
  have hwl := wput_length s.size (by omega)
  have HS := Lib.hid hsl
  clear hsl
  go_enter Tryd.func83, Tryd.ntmps83
  go_wp2_with (first
    | (go_at_call 86; refine (ref03_Put _ _ (by omega)).mono ?_; rintro e w1 ⟨v1, rfl, hown1, hb1⟩)
    | (at_builtin; (refine append_text _ rfl _ _ rfl w.heap.size v1 _ rfl hown1 s rfl (by simp [wputI]; omega) hb1.size ?_); intro v2 w2 hown2 hg2 hl2))
  go_ret
  refine ⟨v2, rfl, ?_, Below.grown hb1 hg2 hb1.size fun k hk => (hown1.lt k hk).1⟩
  unfold wtext
  rw [HS.out]
  simpa [wputI] using hown2
end Go.Proofs.YthbhbechemnidaaDoor
