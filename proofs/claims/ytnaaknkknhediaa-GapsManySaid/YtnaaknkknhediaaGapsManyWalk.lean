/- The walk of the law GapsMany: it returns true, and nothing that was there ahead of the call has turned. -/
import Derived.Test.YtnaaknkknhediaaGapsD
namespace Go.Proofs.Ytnaaknkknhediaa
open Go.RowKit Go.Sort

theorem info_int : (Try.prog.info? 3).map (fun i => (i.zero, i.size, i.bytes)) = some (some (.int .i64 0), 1, 8) := by kernel_rfl

/-- The slice value v owns just the numbers l, in a block from base on. -/
def OwnI (w : World) (base : Nat) (v : Value) (l : List Int) : Prop := w.ownsRow base 3 1 v l.length (l.map vi)
theorem OwnI.reads {w : World} {base : Nat} {v : Value} {l : List Int} (h : OwnI w base v l) : ∃ A c, v = .slice A l.length c ∧ l.length ≤ c ∧ (A = none → c = 0) ∧ Reads w w.heap.size 1 A l.length (l.map vi) := by
  obtain ⟨A, c, hv, hc, hA, _⟩ := own_form h
  subst hv
  exact ⟨A, c, rfl, hc, hA, Reads.of_own h⟩

/-- append of a number. -/
theorem append_int {ops : Array Oper} {rest : List Oper} {o : Oper} {a : Act} {Q : Exit → Act → World → Prop} (w : World) (x0 : Int) (t : TypeId) (hgd : o.guard = none) (sl x : Operand)
    (ho : o.op = .call { callee := .builtin .append, args := #[sl, x], argTypes := #[58, 58] }) (base : Nat) (v : Value) (S : List Int) (hs : a.eval sl = v) (hown : OwnI w base v S)
    (hx : a.eval x = .slice (some ⟨w.heap.size, 0, none⟩) 1 1) (hlen : S.length ≤ 1000000000) (hbase : base ≤ w.heap.size)
    (h : ∀ v' w', OwnI w' base v' (S ++ [x0]) → w.grownBy w' v.ownBlock → LiesIn w v v' → wpList Try.prog ops Q rest (a.put o.dst v') w') :
    wpList Try.prog ops Q (o :: rest) a (w.alloc (.cells #[.int .i64 x0] t)) := by
  refine append_elem w _ [vi x0] rfl t hgd sl x 58 ho base 3 _ 1 8 Try.underlying58 info_int rfl (by decide) v S.length (S.map vi) hs hown rfl (vi_one [x0]) hx (by unfold maxLen; omega) (by omega) hbase ?_
  intro v' w' h1 h2 h3
  refine h v' w' ?_ h2 h3
  unfold OwnI
  rw [List.map_append, List.length_append]
  exact h1

def upTo (n : Nat) : List Int := (List.range n).map fun k : Nat => (k : Int)
theorem upTo_len (n : Nat) : (upTo n).length = n := by simp [upTo]
theorem upTo_succ (n : Nat) : upTo (n + 1) = upTo n ++ [(n : Int)] := by simp [upTo, List.range_succ]
theorem upTo_get {n i : Nat} {x : Int} (h : (upTo n)[i]? = some x) : x = i ∧ i < n := by
  have hi := (List.getElem?_eq_some_iff.1 h).1
  rw [upTo_len] at hi
  simp [upTo, hi] at h
  omega
theorem rise_upTo (n : Nat) (hn : n ≤ 4096) : Rise (upTo n) := by
  intro i x hx
  obtain ⟨h1, h2⟩ := upTo_get hx
  exact ⟨by omega, by omega, fun h0 p hp => by obtain ⟨h3, h4⟩ := upTo_get hp; omega⟩

set_option maxRecDepth 100000 in
set_option maxHeartbeats 2000000 in
theorem gaps_many_walk (w : World) (more : Int) (_ : (Lit.int .i64 more).wf = true) :
    Calls Try.prog 10 #[.int .i64 more] w fun e w' => e = .returned (.bool true) ∧ Below w.heap.size w w' := by
  by_cases hm : more < 0 ∨ 10 < more
  · have hd : decide (more < 0) = true ∨ (decide (more < 0) = false ∧ decide (10 < more) = true) := by simp; omega
    rcases hd with hd | ⟨hd, hd1⟩
    all_goals
      go_enter Try.func10, Try.ntmps10
      go_wp2_with fail
      go_ret
      exact ⟨rfl, Below.refl _ _⟩
  have hd : decide (more < 0) = false := by simp; omega
  have hd1 : decide (10 < more) = false := by simp; omega
  have hm0 : 0 ≤ more := by omega
  have hm1 : more ≤ 10 := by omega
  clear hm
  go_enter Try.func10, Try.ntmps10
  go_wp2_with fail
  go_loopw [3, 4] (fun v3 v4 wr => ∃ k : Nat, v4 = .int .i64 k ∧ (k : Int) ≤ 4096 + more ∧ OwnI wr w.heap.size v3 (upTo k) ∧ Below w.heap.size w wr) (fun _ v4 _ => (4096 + more).toNat - (intOf v4).toNat)
  case atStart => exact ⟨0, rfl, by omega, World.ownsRow_nil _ _ _ _, Below.refl _ _⟩
  case round =>
    obtain ⟨k, rfl, hk, OV, hB⟩ := hrel
    have hul := upTo_len k
    by_cases hkn : (k : Int) < 4096 + more
    · have HU := Lib.hid hul
      have hul2 : (upTo k).length ≤ 1000000000 := by omega
      have hbw := hB.size
      clear hul
      go_wp2_with (at_builtin; refine append_int wr (k : Int) _ rfl _ _ rfl w.heap.size _ (upTo k) rfl OV rfl hul2 hbw ?_; intro v6 w6 R6 g6 L6)
      have hB6 := below_own hB hB.size OV (Nat.le_refl _) g6
      go_roundw
      case rel => exact ⟨k + 1, by go_num, by omega, by rw [upTo_succ]; exact R6, hB6⟩
      case measure => simp [intOf]; omega
    · obtain ⟨A, c, rfl, hc, hA, hr⟩ := OV.reads
      rw [hul] at hr ⊢
      clear OV hA
      have hlt : decide ((k : Int) < 4096 + more) = false := by simpa using hkn
      by_cases h0 : more = 0
      · subst h0
        have hk4 : k = 4096 := by omega
        have HC := Lib.hid (gaps_Put_yes wr.heap.size (.slice none 0 0) [] A k c (upTo k) wr (Own.nil_ _ _) (Nat.le_refl _) (by simp) hr (by omega) (rise_upTo k (by omega)))
        have HR := Lib.hid hr
        have HK := Lib.hid hk4
        clear hr hk4 hul hc
        go_wp2_with fail
        refine HC.out.mono ?_
        rintro e w1 ⟨v1, rfl, O1, G1, _⟩
        have hb1 := below_of_grown_nil G1
        have HS := Lib.hid (gaps_Size_yes A k c (upTo k) w1 ((HR.out.below hb1).more hb1.size) (by rw [HK.out]; decide) (rise_upTo k (by rw [HK.out]; decide)))
        clear O1 G1
        have hB1 := hB.trans (hb1.mono hB.size)
        go_wp2_with fail
        refine HS.out.mono ?_
        rintro e w2 ⟨rfl, b2⟩
        have hB2 := hB1.trans (b2.mono hB1.size)
        have hp := gput_pos (upTo k)
        have hp' : decide (0 < (gput (upTo k)).length) = true := by simpa using hp
        go_wp2_with fail
        refine (alive47 _).mono ?_
        rintro e w5 ⟨rfl, b5⟩
        go_wp2_with fail
        go_ret
        exact ⟨rfl, hB2.trans (b5.mono hB2.size)⟩
      · have hm0' : (more == 0) = false := by simp [h0]
        have HC := Lib.hid (gaps_Put_no (.slice none 0 0) A k c (upTo k) wr wr.heap.size hr (by omega) (by omega))
        have HS := Lib.hid (gaps_Size_no A k c (upTo k) wr wr.heap.size hr (by omega) (by omega))
        clear hr hul hc
        go_wp2_with fail
        refine HC.out.mono ?_
        rintro e w1 ⟨rfl, rfl⟩
        go_wp2_with fail
        refine HS.out.mono ?_
        rintro e w2 ⟨rfl, b2⟩
        have hB2 := hB.trans (b2.mono hB.size)
        go_wp2_with fail
        refine (alive47 _).mono ?_
        rintro e w5 ⟨rfl, b5⟩
        go_wp2_with fail
        go_ret
        exact ⟨rfl, hB2.trans (b5.mono hB2.size)⟩
end Go.Proofs.Ytnaaknkknhediaa
