/- Contract of wire.Put. -/
import Derived.Test.YtedegdojbhegdaaDoorBytesB
import Derived.Test.YtedegdojbhegdaaDoorPlainW
namespace Go.Proofs.YtedegdojbhegdaaDoor
open Go.RowKit Go.Sort

/-- The call hands back the slice v grown to the bytes l: in its old block, or in a new one; nothing else that was there has turned. -/
def Puts (w : World) (base : Nat) (v : Value) (l : List UInt8) (e : Ending) (w' : World) : Prop := ∃ v', e = .returned v' ∧ Own w' base v' l ∧ w.grownBy w' v.ownBlock ∧ Lies w v v'

theorem grown_lies {w a b : World} {v v1 : Value} (h1 : w.grownBy a v.ownBlock) (hl : Lies w v v1) (h2 : a.grownBy b v1.ownBlock) : w.grownBy b v.ownBlock := by
  refine ⟨h2.os.trans h1.os, h2.tape.trans h1.tape, h2.output.trans h1.output, Nat.le_trans h1.size h2.size, fun k hk hne => ?_⟩
  rw [h2.block k (Nat.lt_of_lt_of_le hk h1.size) ?_, h1.block k hk hne]
  rcases hl with hl | ⟨g, hl, hg⟩
  · rw [hl]; exact hne
  · rw [hl]
    intro h
    injection h with h
    omega
theorem lies_trans {w a : World} {v v1 v2 : Value} (hs : w.heap.size ≤ a.heap.size) (h1 : Lies w v v1) (h2 : Lies a v1 v2) : Lies w v v2 := by
  rcases h2 with h2 | ⟨g, h2, hg⟩
  · rcases h1 with h1 | ⟨g, h1, hg⟩
    · exact .inl (h2.trans h1)
    · exact .inr ⟨g, h2.trans h1, hg⟩
  · exact .inr ⟨g, h2, by omega⟩
theorem lies_refl (w : World) (v : Value) : Lies w v v := .inl rfl
theorem grown_of_below {w a : World} (h : Below w.heap.size w a) (row : Option Nat) : w.grownBy a row := ⟨h.os, h.tape, h.output, h.size, fun k hk _ => h.block k hk⟩
theorem grown_alloc {w a : World} {row : Option Nat} (h : w.grownBy a row) (o : Obj) : w.grownBy (a.alloc o) row :=
  ⟨h.os, h.tape, h.output, Nat.le_trans h.size (by simp), fun k hk hne => (Below.heap_alloc a o k (Nat.lt_of_lt_of_le hk h.size)).trans (h.block k hk hne)⟩

theorem ofInt_i64 (a : Nat) (ha : a < 9223372036854775808) : (BitVec.ofInt 64 (a : Int)).toNat = a := by
  rw [BitVec.ofInt_natCast, BitVec.toNat_ofNat]; exact Nat.mod_eq_of_lt (by omega)
theorem i64_and_127 (a : Nat) (ha : a < 9223372036854775808) : bits .and .i64 (a : Int) 127 = ((a % 128 : Nat) : Int) := by
  show IntKind.i64.wrap ((BitVec.ofInt 64 (a : Int) &&& BitVec.ofInt 64 127).toNat : Int) = _
  have e : (BitVec.ofInt 64 127).toNat = 2 ^ 7 - 1 := by decide
  rw [BitVec.toNat_and, ofInt_i64 a ha, e, Nat.and_two_pow_sub_one_eq_mod, IntKind.wrap_i64]
  omega

def mB : Value → Nat | .bool true => 1 | _ => 0

def PutRel1 (N : Nat) (w : World) (v1 v5 v6 : Value) (wr : World) : Prop :=
  ∃ (m : Nat) (ok : Bool) (L : List UInt8) (vL : Value), v1 = .int .i64 m ∧ v6 = .bool ok ∧ v5 = vL ∧ Own wr w.heap.size vL L ∧ Below w.heap.size w wr ∧ (ok = true → Gath N m L) ∧ (ok = false → L ≠ [] ∧ L.length ≤ 9 ∧ wput N = outs L) ∧ m ≤ 9223372036854775807

theorem u8_or_128 : ∀ x : Nat, x < 256 → bits .or .u8 (x : Int) 128 = ((128 + x % 128 : Nat) : Int) := by decide +kernel

theorem putRel1_step {N m : Nat} {L : List UInt8} {w w1 : World} {v' : Value} (G : Gath N m L) (hown : Own w1 w.heap.size v' (L ++ [UInt8.ofNat (m % 128)])) (hb : Below w.heap.size w w1) (hm : m ≤ 9223372036854775807) :
    PutRel1 N w (.int .i64 ((m : Int) / 128)) v' (.bool (decide (0 < (m : Int) / 128))) w1 := by
  refine ⟨m / 128, decide (0 < (m : Int) / 128), _, v', by go_num, rfl, rfl, hown, hb, ?_, ?_, by omega⟩
  · intro h
    exact (gath_step G).2.2 (by simp at h; omega)
  · intro h
    exact ⟨by simp, by have := (gath_step G).1; simp; omega, gath_end G (by simp at h; omega)⟩

/-- The second loop: the bytes ahead of the last one are laid, from the highest on. -/
def PutRel2 (w : World) (base : Nat) (v : Value) (l L : List UInt8) (g cap : Nat) (v0 v7 : Value) (wr : World) : Prop :=
  ∃ k : Nat, k < L.length ∧ v7 = .int .i64 k ∧ Own wr base v0 (l ++ ((L.drop (k + 1)).map up).reverse) ∧ Own wr w.heap.size (.slice (some ⟨g, 0, none⟩) L.length cap) L ∧ w.grownBy wr v.ownBlock ∧ Lies w v v0 ∧ v0.ownBlock ≠ some g

theorem putRel2_keep {w wr w1 : World} {v v0 v' : Value} {L : List UInt8} {g cap : Nat} (hL : Own wr w.heap.size (.slice (some ⟨g, 0, none⟩) L.length cap) L) (hgb : w.grownBy wr v.ownBlock) (hl : Lies w v v0) (hne : v0.ownBlock ≠ some g)
    (hg : wr.grownBy w1 v0.ownBlock) (hlies : Lies wr v0 v') :
    Own w1 w.heap.size (.slice (some ⟨g, 0, none⟩) L.length cap) L ∧ w.grownBy w1 v.ownBlock ∧ Lies w v v' ∧ v'.ownBlock ≠ some g := by
  have hlt := (hL.lt g rfl).2
  refine ⟨hL.kept hg (.inr (Ne.symm hne)), grown_lies hgb hl hg, lies_trans hgb.size hl hlies, ?_⟩
  rcases hlies with h | ⟨g', h, hle⟩
  · rw [h]; exact hne
  · rw [h]
    intro he
    injection he with he
    omega

set_option maxRecDepth 100000 in
set_option maxHeartbeats 1000000 in
theorem wire_Put (w : World) (base : Nat) (v : Value) (l : List UInt8) (n : Int) (hown : Own w base v l) (hbase : base ≤ w.heap.size) (hn : n ≤ 9223372036854775807) (hlen : l.length ≤ 140737488355000) :
    Calls Tryd.prog 95 #[v, .int .i64 n] w (Puts w base v (l ++ wputI n)) := by
  unfold wputI
  obtain ⟨N, hN⟩ : ∃ N : Nat, N = n.toNat := ⟨_, rfl⟩
  rw [← hN]
  have hN2 : N ≤ 9223372036854775807 := by omega
  have HN := Lib.hid hN
  have HO := Lib.hid hown
  clear hN hown
  go_enter Tryd.func95, Tryd.ntmps95
  go_wp2
  all_goals
    go_loopw [1, 5, 6] (fun v1 v5 v6 wr => PutRel1 N w v1 v5 v6 wr) (fun v1 _ v6 _ => (intOf v1).toNat * 2 + mB v6)
    case atStart =>
      have e := HN.out
      first
        | exact ⟨N, true, [], _, by rw [e]; go_num, rfl, rfl, Own.nil_ _ _, Below.refl _ _, fun _ => gath_start N hN2, (by intro h; cases h), hN2⟩
        | exact ⟨N, true, [], _, by congr 1; omega, rfl, rfl, Own.nil_ _ _, Below.refl _ _, fun _ => gath_start N hN2, (by intro h; cases h), hN2⟩
    case round =>
      obtain ⟨m, ok, L, vL, rfl, rfl, rfl, hL, hb, htrue, hfalse, hm⟩ := hrel
      cases ok
      · obtain ⟨hne, h9, hout⟩ := hfalse rfl
        rcases hL.form with ⟨_, h⟩ | ⟨g, cap, rfl, hg1, hg2, hcap, hcapm, _⟩
        · exact absurd h hne
        have hp := List.length_pos_iff.2 hne
        have HOUT := Lib.hid hout
        have HB := Lib.hid hb
        have HS : Hid (PutRel2 w base v l L g cap v (.int .i64 ((L.length : Int) - 1)) wr) := Lib.hid (by
          refine ⟨L.length - 1, by omega, by congr 1; omega, ?_, hL, grown_of_below hb _, lies_refl _ _, ?_⟩
          · have e : L.length - 1 + 1 = L.length := by omega
            rw [e, List.drop_length]
            simpa using HO.out.below hb
          · intro h
            have := (HO.out.lt g h).2
            omega)
        clear hne hout htrue hfalse hL hb
        go_wp2
        go_loopw [0, 7] (fun v0 v7 wr => PutRel2 w base v l L g cap v0 v7 wr) (fun _ v7 _ => (intOf v7).toNat)
        case atStart => exact HS.out
        case round =>
          obtain ⟨k, hk, rfl, hown, hL, hgb, hl, hne⟩ := hrel
          rcases hL.form with ⟨h, _⟩ | ⟨g', cap', hv, _, _, _, _, hcell⟩
          · cases h
          injection hv with hv1 _ hv2
          injection hv1 with hv1
          injection hv1 with hv1
          subst hv1 hv2
          have hll : (l ++ ((L.drop (k + 1)).map up).reverse).length ≤ 140737488355300 := by simp; omega
          have hbw : base ≤ wr.heap.size := Nat.le_trans hbase hgb.size
          have HOW := Lib.hid hown
          have HK := Lib.hid (And.intro hL (And.intro hgb (And.intro hl hne)))
          by_cases hk0 : 0 < k
          · have hc := hcell k hk
            have hor := u8_or_128 L[k].toNat (UInt8.toNat_lt _)
            clear hcell hL hgb hl hne hown
            go_wp2_with (at_builtin; go_must (refine append_byte _ _ (up L[k]) (by simp [vb, up_toNat]) _ rfl _ _ rfl base _ _ rfl HOW.out rfl (by omega) hbw ?_); intro v' w1 hown hg hlies)
            have K := putRel2_keep HK.out.1 HK.out.2.1 HK.out.2.2.1 HK.out.2.2.2 hg hlies
            have e : (l ++ ((L.drop (k + 1)).map up).reverse) ++ [up L[k]] = l ++ ((L.drop (k - 1 + 1)).map up).reverse := by
              have e1 : k - 1 + 1 = k := by omega
              rw [e1, outs_drop L k hk, List.append_assoc]
            rw [e] at hown
            go_roundw
            case rel => exact ⟨k - 1, by omega, by go_num, hown, K⟩
            case measure => simp [intOf]; omega
          · obtain rfl : k = 0 := by omega
            have hc := hcell 0 hk
            clear hcell hL hgb hl hne hown
            go_wp2_with (at_builtin; go_must (refine append_byte _ _ L[0] (by rfl) _ rfl _ _ rfl base _ _ rfl HOW.out rfl (by omega) hbw ?_); intro v' w1 hown hg hlies)
            have K := putRel2_keep HK.out.1 HK.out.2.1 HK.out.2.2.1 HK.out.2.2.2 hg hlies
            go_ret
            refine ⟨v', rfl, ?_, K.2.1, K.2.2.1⟩
            have e : (l ++ ((L.drop (0 + 1)).map up).reverse) ++ [L[0]] = l ++ wput N := by
              rw [HOUT.out, outs, List.append_assoc]
              congr 2
              · rw [List.drop_one]
              · match L, hk with
                | a :: r, _ => rfl
            rw [e] at hown
            exact hown
      · have G := Lib.hid (htrue rfl)
        clear htrue hfalse
        have hand := i64_and_127 m (by omega)
        have hLL := (gath_step G.out).1
        have HL := Lib.hid hL
        clear hL
        go_wp2_with (at_builtin; go_must (refine append_byte _ _ (UInt8.ofNat (m % 128)) (by simp [vb]; omega) _ rfl _ _ rfl w.heap.size u5 L rfl HL.out rfl (by omega) (by have := hb.size; simp; omega) ?_); intro v' w1 hown hg hlies)
        have HS := Lib.hid (putRel1_step G.out hown (below_of_grown hb hb.size hg (fun k hk => (HL.out.lt k hk).1)) hm)
        go_roundw
        case rel => exact HS.out
        case measure => by_cases hd : 0 < (m : Int) / 128 <;> simp [intOf, hd, mB] <;> omega
end Go.Proofs.YtedegdojbhegdaaDoor
