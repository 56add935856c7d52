/- Contracts of frame.Put, frame.Whole, the reference's Put and All; rows of byte slices. -/
import Derived.Test.YtfebncpfhdgkpaaFrameA
import Derived.Test.YtfebncpfhdgkpaaCarry
import Derived.Test.YtfebncpfhdgkpaaRows1
import Derived.Test.YtfebncpfhdgkpaaRefNum
import Derived.Test.YtfebncpfhdgkpaaWireC
namespace Go.Proofs.Ytfebncpfhdgkpaa
open Go.RowKit Go.Sort

set_option maxRecDepth 100000 in
theorem frame_Put (w : World) (base : Nat) (v : Value) (l : List UInt8) (A : Option Addr) (n c : Nat) (rec_ : List UInt8) (hown : Own w base v l) (hbase : base ≤ w.heap.size) (hl : rec_.length = n) (hr : ∀ w1, w.grownBy w1 v.ownBlock → Reads w1 w1.heap.size 1 A n (rec_.map vb)) (hlen : l.length + n ≤ 140737488350000) :
    Calls Try.prog 27 #[v, .slice A n c] w (Puts w base v (l ++ wtext rec_)) := by
  have hwl := wput_length n (by omega)
  have HO := Lib.hid hown
  have HR := Lib.hid hr
  have HL := Lib.hid hl
  clear hown hr hl
  go_enter Try.func27, Try.ntmps27
  go_wp2_with (first
    | (go_at_call 77; refine (wire_Put _ base v l _ HO.out hbase (by omega) (by omega)).mono ?_; rintro e w1 ⟨v1, rfl, hown1, hg1, hl1⟩)
    | (at_builtin; (refine append_bytes _ rfl _ _ rfl base v1 _ rfl hown1 A n c rec_ rfl (HR.out _ hg1) (by simp [wputI]; omega) (Nat.le_trans hbase hg1.size) ?_); intro v2 w2 hown2 hg2 hl2))
  go_ret
  refine ⟨v2, rfl, ?_, grown_lies hg1 hl1 hg2, lies_trans hg1.size hl1 hl2⟩
  unfold wtext
  rw [HL.out]
  simpa [wputI] using hown2

set_option maxRecDepth 100000 in
theorem ref12_Put (w : World) (A : Option Addr) (n c : Nat) (rec_ : List UInt8) (hr : Reads w w.heap.size 1 A n (rec_.map vb)) (hlen : n ≤ 140737488350000) :
    Calls Try.prog 37 #[.slice A n c] w (Fresh w (wtext rec_)) := by
  have hl := hr.len
  have hwl := wput_length n (by omega)
  have HR := Lib.hid hr
  have HL := Lib.hid hl
  clear hr hl
  go_enter Try.func37, Try.ntmps37
  go_wp2_with (first
    | (go_at_call 81; refine (ref03_Put _ _ (by omega)).mono ?_; rintro e w1 ⟨v1, rfl, hown1, hb1⟩)
    | (at_builtin; (refine append_bytes _ rfl _ _ rfl w.heap.size v1 _ rfl hown1 A n c rec_ rfl ((HR.out.below hb1).more hb1.size) (by simp [wputI]; omega) hb1.size ?_); intro v2 w2 hown2 hg2 hl2))
  go_ret
  refine ⟨v2, rfl, ?_, Below.grown hb1 hg2 hb1.size fun k hk => (hown1.lt k hk).1⟩
  unfold wtext
  rw [HL.out]
  simpa [wputI] using hown2

theorem Reads.from_ {w : World} {B n c : Nat} {A : Option Addr} {L : List UInt8} (h : Reads w B 1 A n (L.map vb)) (k : Nat) (hk : k ≤ n) (hc : n ≤ c) :
    (c = k → Reads w B 1 A (n - k) ((L.drop k).map vb)) ∧ (c ≠ k → Reads w B 1 (A.map (·.add k)) (n - k) ((L.drop k).map vb)) := by
  have h1 := h.cut hk hc
  rw [Nat.mul_one, ← List.map_drop] at h1
  refine ⟨fun e => ?_, fun e => ?_⟩
  · rw [if_pos e] at h1; exact h1
  · rw [if_neg e] at h1; exact h1

set_option maxRecDepth 100000 in
set_option maxHeartbeats 2000000 in
theorem frame_Whole (A : Option Addr) (n c : Nat) (l : List UInt8) (w : World) (hr : Reads w w.heap.size 1 A n (l.map vb)) (hnc : n ≤ c) (hn : n ≤ 140737488355400) :
    Calls Try.prog 29 #[.slice A n c] w fun e w' => e = .returned (.int .i64 ((frA l).2 : Nat)) ∧ Below w.heap.size w w' := by
  have HR := Lib.hid hr
  have HL := Lib.hid hr.len
  clear hr
  go_enter Try.func29, Try.ntmps29
  go_wp2_with fail
  go_loopw [3] (fun v3 wr => ∃ k : Nat, v3 = .int .i64 k ∧ k ≤ n ∧ (frA l).2 = k + (frA (l.drop k)).2 ∧ Below w.heap.size w wr) (fun v3 _ => n - (intOf v3).toNat)
  case atStart => exact ⟨0, rfl, Nat.zero_le _, by simp, Below.refl _ _⟩
  case round =>
    obtain ⟨k, rfl, hk, hq, hB⟩ := hrel
    by_cases hkn : k < n
    · have hrd := (((HR.out.below hB).more hB.size).from_ k hk hnc)
      have hdl : (l.drop k).length = n - k := by rw [List.length_drop, HL.out]
      have hne : l.drop k ≠ [] := by intro h; rw [h] at hdl; simp at hdl; omega
      have hst := frA_step (l.drop k) hne
      have hsp := frA_stop (l.drop k)
      have hps := fr1_pos (l.drop k)
      rw [hdl] at hps
      rw [List.drop_drop] at hst
      have hN := fun A' (h : Reads wr wr.heap.size 1 A' (n - k) ((l.drop k).map vb)) => frame_next A' (n - k) (c - k) (l.drop k) wr h (by omega) (by omega)
      obtain ⟨r, t, e0, hfe⟩ : ∃ r t e0, fr1 (l.drop k) = (r, t, e0) := ⟨_, _, _, rfl⟩
      unfold NextP at hN
      rw [hfe] at hst hsp hps
      simp only [hfe] at hN hst hsp hps
      have HQ := Lib.hid hq
      have HST := Lib.hid hst
      have HSP := Lib.hid hsp
      have HPS := Lib.hid hps
      have HN := Lib.hid hN
      have HNE := Lib.hid hne
      clear hq hst hsp hps hN hne hdl hfe
      have key : ∀ A', Reads wr wr.heap.size 1 A' (n - k) ((l.drop k).map vb) → Calls Try.prog 78 #[.slice A' (n - k) (c - k)] wr fun e w' => Below wr.heap.size wr w' ∧ ((e0 = 0 ∧ ∃ A2 m2, e = .returned (.tuple #[.slice A2 m2 m2, .int .i64 (t : Nat), .bool true])) ∨ (e0 ≠ 0 ∧ e = .returned (.tuple #[.slice none 0 0, .int .i64 0, .bool false]))) := by
        intro A' h
        refine (HN.out A' h).mono ?_
        rintro e w' ⟨h1, h2, h3⟩
        refine ⟨h1, ?_⟩
        by_cases h0 : e0 = 0
        · obtain ⟨A2, h4, _⟩ := h2 h0
          exact .inl ⟨h0, _, _, h4⟩
        · exact .inr ⟨h0, h3 h0⟩
      have KEY := Lib.hid key
      have HRD := Lib.hid hrd
      clear key HN hrd
      by_cases hck : c = k
      · omega
      · have hR := HRD.out.2 hck
        go_wp2_with fail
        refine (KEY.out _ hR).mono ?_
        rintro e w2 ⟨b2, (⟨h0, A2, m2, rfl⟩ | ⟨h0, rfl⟩)⟩
        · obtain ⟨p1, p2, _⟩ := HPS.out h0
          have hs := HST.out h0
          have hs2 := congrArg Prod.snd hs
          simp only [] at hs2
          have hq2 := HQ.out
          have HX : Hid ((frA l).2 = k + t + (frA (l.drop (k + t))).2) := Lib.hid (by rw [hq2, hs2]; omega)
          clear hs hs2 hq2 hR
          replace hB := hB.trans (b2.mono hB.size)
          have hw1 : IntKind.i64.wrap ((k : Int) + (t : Int)) = (k : Int) + t := by rw [IntKind.wrap_i64]; omega
          go_wp2_with fail
          go_roundw
          case rel => exact ⟨k + t, by go_num, by omega, HX.out, hB⟩
          case measure => simp [intOf]; omega
        · have hs := HSP.out (.inr h0)
          have HX : Hid ((frA l).2 = k) := Lib.hid (by rw [HQ.out, hs]; rfl)
          clear hs hR h0
          replace hB := hB.trans (b2.mono hB.size)
          go_wp2_with fail
          go_ret
          exact ⟨by rw [HX.out]; rfl, hB⟩
    · have hke : k = n := by omega
      have HX : Hid ((frA l).2 = k) := Lib.hid (by
        rw [hq, List.drop_eq_nil_of_le (by rw [HL.out]; omega), frA_stop [] (.inl rfl)]
        rfl)
      clear hq
      go_wp2_with fail
      go_ret
      exact ⟨by rw [HX.out]; rfl, hB⟩
end Go.Proofs.Ytfebncpfhdgkpaa
