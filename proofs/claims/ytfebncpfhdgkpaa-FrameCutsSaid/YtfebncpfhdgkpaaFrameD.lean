/- Contracts of frame.All: the iterator over the records that are there wholly. -/
import Derived.Test.YtfebncpfhdgkpaaFrameC
import Derived.Test.YtfebncpfhdgkpaaRange
import Derived.Test.YtfebncpfhdgkpaaTail
import Derived.Shelf.Abstract
import Derived.Shelf.RegionOpen
import Derived.TacticsInMore
import Derived.LoopNIn
import Derived.LoopIn
namespace Go.Proofs.Ytfebncpfhdgkpaa
open Go.RowKit Go.Sort Go.Shelf
attribute [local go_sem] Oper.semAt_some

/-- 'append(s, x...)' inside a fence. -/
theorem wpListIn_append_bytes {F : Fence} {n : Nat} {ops : Array Oper} {rest : List Oper} {o : Oper} {a : Act} {Q : Exit → Act → World → Prop} (w : World) (hw : Region.wanted o (yielded ops a.tmps) = true) (s x : Operand)
    (ho : o.op = .call { callee := .builtin .append, args := #[s, x], argTypes := #[46, 46] }) (base : Nat) (v : Value) (l : List UInt8) (hs : a.eval s = v) (hown : Own w base v l)
    (A : Option Addr) (m c : Nat) (news : List UInt8) (hx : a.eval x = .slice A m c) (hr : Reads w w.heap.size 1 A m (news.map vb)) (hlen : l.length + m ≤ 140737488355328) (hbase : base ≤ w.heap.size)
    (h : ∀ v' w', Own w' base v' (l ++ news) → w.grownBy w' v.ownBlock → Lies w v v' → wpListIn F n Try.prog ops Q rest (a.put o.dst v') w') : wpListIn F n Try.prog ops Q (o :: rest) a w := by
  obtain ⟨i0, hi, hz0, hz1, hz2⟩ := info_parts info_u8
  have hn := hr.len
  refine wpListIn_step fun K hK => ?_
  rw [if_pos hw]
  obtain ⟨v', w', hrun, h1, h2, h3⟩ := run_append_any (P := Try.prog) w base 46 o.type 5 i0 (.int .u8 0) 1 1 Try.underlying46 hi hz0 hz1 hz2 rfl (by decide) v l.length (l.map vb) hown w.heap.size A m c (news.map vb) hr (vb_one _) (by simp only [maxLen]; omega) (by omega) hbase
  have hq := h v' w' (by unfold Own; rw [List.map_append, List.length_append, hn]; exact h1) h2 (by rcases h3 with h3 | h3; exact .inl h3; exact .inr ⟨_, h3, Nat.le_refl _⟩)
  unfold Oper.wpIn
  refine ⟨?_, ?_⟩
  · simp [Oper.about, ho, resolve, Target.leads, Sem.run_pure]
  · rw [Oper.semAt_plain F _ _ (by rw [ho]; intro c hc'; cases hc')]
    simp [execOp, ho, resolve, invoke, builtin, hs, hx, hrun, Result.andThen]
    exact hK _ _ hq

def slLen : Value → Nat | .slice _ n _ => n | _ => 0

set_option maxRecDepth 100000 in
set_option maxHeartbeats 4000000 in
theorem all_stops (n : Nat) (g : Nat) (A : Option Addr) (m c : Nat) (l : List UInt8) (w : World) (n0 : Nat) (hn0 : n0 ≤ w.heap.size) (hb : Blk w g 46 #[.slice A m c]) (hr : Reads w n0 1 A m (l.map vb)) (hmc : m ≤ c) (hm : m ≤ 1000000) :
    SeqG n Try.prog 102 #[.pointer (some ⟨g, 0, none⟩)] (fun x : Rc => #[x.1]) (fun x W => Own W w.heap.size x.1 x.2) (fun W W' => Below n0 W W') (fun xs => xs.map (fun x : Rc => x.2) = (frA l).1) (fun pre => ∃ r, (frA l).1 = pre.map (fun x : Rc => x.2) ++ r) 1000001 w := fun lp J Jx W hW hJ hJx hY h0 => by
  refine callsIn_of_wp Try.func102 rfl trivial ?_ rfl
  simp only [Try.ntmps102, List.size_toArray, List.length_cons, List.length_nil, Nat.reduceAdd, Nat.reduceSub, Array.replicate_succ, Array.replicate_zero, List.push_toArray, List.append_toArray, List.nil_append, List.cons_append]
  have hb1 := (hb.below hW hb.lt).cell
  have hl := hr.len
  have HL := Lib.hid hl
  have HY := Lib.hid hY
  have HJ := Lib.hid hJ
  have hW0 := hW.mono hn0
  have hr1 := hr.below hW0
  clear hY hJ hJx hl hb hr
  gi_wp2
  clear hb1
  gi_loopw [3] (fun v3 wr => ∃ (k : Nat) (A' : Option Addr) (c' : Nat) (pre : List Rc), v3 = .slice A' (m - k) c' ∧ k ≤ m ∧ m - k ≤ c' ∧ Reads wr n0 1 A' (m - k) ((l.drop k).map vb) ∧ (frA l).1 = pre.map (fun x : Rc => x.2) ++ (frA (l.drop k)).1 ∧ pre.length ≤ k ∧ J pre wr ∧ Below n0 w wr) (fun v3 _ => slLen v3)
  case atStart => exact ⟨0, A, c, [], rfl, Nat.zero_le _, hmc, hr1, by simp, Nat.le_refl _, h0, hW0⟩
  case round =>
    clear hr1 h0 hW hW0
    obtain ⟨k, A', c', pre, rfl, hk, hkc, hR, hq, hpl, hJp, hB⟩ := hrel
    by_cases hkn : k < m
    · have hdl : (l.drop k).length = m - k := by rw [List.length_drop, HL.out]
      have hne : l.drop k ≠ [] := by intro h; rw [h] at hdl; simp at hdl; omega
      have hN := frame_next A' (m - k) c' (l.drop k) wr (hR.more (Nat.le_trans hn0 hB.size)) hkc (by omega)
      unfold NextP at hN
      have hst := frA_step (l.drop k) hne
      have hsp := frA_stop (l.drop k)
      have hps := fr1_pos (l.drop k)
      rw [hdl] at hps
      rw [List.drop_drop] at hst
      obtain ⟨r, t, e0, hfe⟩ : ∃ r t e0, fr1 (l.drop k) = (r, t, e0) := ⟨_, _, _, rfl⟩
      simp only [hfe] at hN hst hsp hps
      have HN := Lib.hid hN
      have HPS := Lib.hid hps
      have HST := Lib.hid hst
      have HSP := Lib.hid hsp
      have HQ := Lib.hid hq
      clear hN hst hsp hps hq hne hdl hfe
      gi_wp2
      refine ⟨trivial, fun h => (by cases h), ?_⟩
      refine (callsIn_wide.2 HN.out).mono ?_
      rintro e w2 ⟨b2, hyes, hno⟩
      have hJ2 := HJ.out pre wr w2 none hJp (grown_of_below b2 _) (fun r h => by cases h)
      have hB2 := hB.trans (b2.mono (Nat.le_trans hn0 hB.size))
      have hR2 := hR.below (b2.mono (Nat.le_trans hn0 hB.size))
      by_cases h0 : e0 = 0
      · obtain ⟨A2, he, R2⟩ := hyes h0
        subst he
        have R2' := (R2.below b2).more b2.size
        obtain ⟨p1, p2, p3⟩ := HPS.out h0
        have hs := HST.out h0
        have HX : Hid ((frA l).1 = pre.map (fun x : Rc => x.2) ++ (r :: (frA (l.drop (k + t))).1)) := Lib.hid (by rw [HQ.out, hs])
        have hw2 := hB2.size
        have hB0 := hB.size
        clear hs hyes hno b2 hR hJp hB R2 h0
        gi_wp2_with (gi_at_builtin; (refine wpListIn_append_bytes w2 rfl _ _ rfl w.heap.size (.slice none 0 0) [] rfl (Own.nil_ _ _) A2 r.length r.length r rfl R2' (by simp; omega) hw2 ?_); intro v3 w3 O3 G3 _; (have hb3 := below_of_grown_nil G3); (have hJ3 := HJ.out pre w2 w3 none hJ2 (grown_of_below hb3 _) (fun r h => by cases h)); (rw [List.nil_append] at O3); (obtain ⟨fn, tmps, assign, body, hy, hRd⟩ := HY.out pre (v3, r) w3 hJ3 O3 (by omega)); (dsimp only at hy))
        refine ⟨fun h => (by cases h), ?_⟩
        refine hRd.mono ?_
        rintro e w4 (⟨rfl, hJ4, b4⟩ | ⟨rfl, hJx4⟩)
        · have hB4 := (hB2.trans (hb3.mono (Nat.le_trans hn0 hw2))).trans b4
          have hR4 := (hR2.below (hb3.mono (Nat.le_trans hn0 hw2))).below b4
          obtain ⟨F1, F2⟩ := hR4.from_ t p2 hkc
          rw [List.drop_drop] at F1 F2
          have hX : (frA l).1 = (pre ++ [(v3, r)]).map (fun x : Rc => x.2) ++ (frA (l.drop (k + t))).1 := by
            rw [HX.out]
            simp
          have HXX := Lib.hid hX
          have FF := Lib.hid (And.intro F1 F2)
          have hkt : m - k - t = m - (k + t) := by omega
          clear hX F1 F2 hR4 hR2 R2' hy hRd hJ3 hb3 hB2 O3 G3
          have h1t : (t : Int) ≤ ((m - k : Nat) : Int) := by omega
          by_cases hct : c' = t
          · have hF := FF.out.1 hct
            gi_wp2
            go_roundw
            case rel => exact ⟨k + t, A', _, pre ++ [(v3, r)], by rw [← hkt], by omega, by omega, by rw [← hkt]; exact hF, HXX.out, by simp; omega, hJ4, hB4⟩
            case measure => simp [slLen]; omega
          · have hF := FF.out.2 hct
            gi_wp2
            go_roundw
            case rel => exact ⟨k + t, _, _, pre ++ [(v3, r)], by rw [← hkt], by omega, by omega, by rw [← hkt]; exact hF, HXX.out, by simp; omega, hJ4, hB4⟩
            case measure => simp [slLen]; omega
        · have HXX : Hid ((frA l).1 = (pre ++ [(v3, r)]).map (fun x : Rc => x.2) ++ (frA (l.drop (k + t))).1) := Lib.hid (by rw [HX.out]; simp)
          clear hR2 R2' hy hRd hJ3 hb3 hB2 O3 G3
          gi_wp2
          refine bodyPost_ret (results_none rfl _ _ _) rfl ?_
          exact ⟨⟨_, rfl⟩, .inr ⟨pre ++ [(v3, r)], ⟨_, HXX.out⟩, hJx4⟩⟩
      · have he := hno h0
        subst he
        have hs := HSP.out (.inr h0)
        have HX : Hid (pre.map (fun x : Rc => x.2) = (frA l).1) := Lib.hid (by rw [HQ.out, hs]; simp)
        clear hs hyes hno b2 hR hJp hB hR2 h0
        gi_wp2
        refine ⟨fun _ h => (by cases h), ?_⟩
        gi_wp2
        refine bodyPost_ret (results_none rfl _ _ _) rfl ?_
        exact ⟨⟨_, rfl⟩, .inl ⟨pre, HX.out, hJ2⟩⟩
    · have hs := frA_stop (l.drop k) (.inl (by rw [List.drop_eq_nil_of_le]; rw [HL.out]; omega))
      have HX : Hid (pre.map (fun x : Rc => x.2) = (frA l).1) := Lib.hid (by rw [hq, hs]; simp)
      clear hs hq hR
      have hmk : m - k = 0 := by omega
      gi_wp2
      go_end0
      exact ⟨⟨_, rfl⟩, .inl ⟨pre, HX.out, hJp⟩⟩

theorem frame_All (A : Option Addr) (m c : Nat) (w : World) : Calls Try.prog 79 #[.slice A m c] w fun e w' => e = .returned (.func (.func 102) #[] #[.pointer (some ⟨w.heap.size, 0, none⟩)]) ∧ w' = w.alloc (.cells #[.slice A m c] 46) := by
  go_enter Try.func79, Try.ntmps79
  go_wp2_with fail
  go_ret
  exact ⟨rfl, rfl⟩
end Go.Proofs.Ytfebncpfhdgkpaa
