/- Rows of byte slices; contracts of the reference's All and of the law's same. -/
import Derived.Test.YtfebncpfhdgkpaaFrameB
import Derived.Deep.Cut
import Derived.StillTailTactics
namespace Go.Proofs.Ytfebncpfhdgkpaa
open Go.RowKit Go.Sort

/-- A record: a slice's value, and the bytes that it holds. -/
abbrev Rc := Value × List UInt8
def RecR (w : World) (B : Nat) (x : Rc) : Prop := ∃ A c, x.1 = .slice A x.2.length c ∧ Reads w B 1 A x.2.length (x.2.map vb)
theorem RecR.below {w w' : World} {B : Nat} {x : Rc} (h : RecR w B x) (hb : Below B w w') : RecR w' B x := let ⟨A, c, e, r⟩ := h; ⟨A, c, e, r.below hb⟩
theorem RecR.more {w : World} {B B' : Nat} {x : Rc} (h : RecR w B x) (hb : B ≤ B') : RecR w B' x := let ⟨A, c, e, r⟩ := h; ⟨A, c, e, r.more hb⟩
theorem info_bytes : (Try.prog.info? 46).map (fun i => (i.zero, i.size, i.bytes)) = some (some (.slice none 0 0), 1, 24) := by kernel_rfl
/-- The slice value v owns just these slices, in a block from base on. -/
def OwnV (w : World) (base : Nat) (v : Value) (rs : List Rc) : Prop := w.ownsRow base 46 1 v rs.length (rs.map fun x : Rc => x.1)
section
variable {w w' : World} {base : Nat} {v : Value} {rs : List Rc}
theorem OwnV.nil_ (w : World) (base : Nat) : OwnV w base (.slice none 0 0) [] := World.ownsRow_nil _ _ _ _
theorem OwnV.below (h : OwnV w base v rs) (hb : Below w.heap.size w w') : OwnV w' base v rs := own_below h hb
theorem OwnV.alloc (h : OwnV w base v rs) (o : Obj) : OwnV (w.alloc o) base v rs := World.ownsRow.alloc h o
theorem OwnV.kept {row : Option Nat} (h : OwnV w base v rs) (hg : w.grownBy w' row) (hne : v.ownBlock = none ∨ v.ownBlock ≠ row) : OwnV w' base v rs := World.ownsRow.kept h hg hne
theorem OwnV.lt (h : OwnV w base v rs) : ∀ k, v.ownBlock = some k → base ≤ k ∧ k < w.heap.size := World.ownsRow.lt h
theorem OwnV.base_le (h : OwnV w base v rs) {base' : Nat} (hb : base' ≤ base) : OwnV w base' v rs := by
  obtain ⟨h1, h2⟩ := h
  refine ⟨h1, ?_⟩
  rcases h2 with h2 | ⟨g, cap, cur, hv, hg, r⟩
  · exact .inl h2
  · exact .inr ⟨g, cap, cur, hv, by omega, r⟩
theorem OwnV.reads (h : OwnV w base v rs) : ∃ A c, v = .slice A rs.length c ∧ rs.length ≤ c ∧ (A = none → c = 0) ∧ Reads w w.heap.size 1 A rs.length (rs.map fun x : Rc => x.1) := by
  obtain ⟨A, c, hv, hc, hA, _⟩ := own_form h
  subst hv
  exact ⟨A, c, rfl, hc, hA, Reads.of_own h⟩
end
/-- append of a slice. -/
theorem append_rec {ops : Array Oper} {rest : List Oper} {o : Oper} {a : Act} {Q : Exit → Act → World → Prop} (w : World) (x0 : Rc) (hx0 : x0.1.oneCell' = true) (u : Array Value) (hu : u.toList = [x0.1]) (t : TypeId) (hgd : o.guard = none) (sl x : Operand)
    (ho : o.op = .call { callee := .builtin .append, args := #[sl, x], argTypes := #[45, 45] }) (base : Nat) (v : Value) (rs : List Rc) (hs : a.eval sl = v) (hown : OwnV w base v rs)
    (hx : a.eval x = .slice (some ⟨w.heap.size, 0, none⟩) 1 1) (hlen : rs.length ≤ 1000000000) (hbase : base ≤ w.heap.size)
    (h : ∀ v' w', OwnV w' base v' (rs ++ [x0]) → w.grownBy w' v.ownBlock → LiesIn w v v' → wpList Try.prog ops Q rest (a.put o.dst v') w') :
    wpList Try.prog ops Q (o :: rest) a (w.alloc (.cells u t)) := by
  refine append_elem w _ [x0.1] hu t hgd sl x 45 ho base 46 _ 1 24 Try.underlying45 info_bytes rfl (by decide) v rs.length (rs.map fun x : Rc => x.1) hs hown rfl (by intro u hu; simp at hu; subst hu; exact hx0) hx (by unfold maxLen; omega) (by omega) hbase ?_
  intro v' w' h1 h2 h3
  refine h v' w' ?_ h2 h3
  unfold OwnV
  rw [List.map_append, List.length_append]
  exact h1

set_option maxRecDepth 100000 in
set_option maxHeartbeats 2000000 in
theorem law12_same (A1 A2 : Option Addr) (n1 n2 c1 c2 : Nat) (rs1 rs2 : List Rc) (w : World) (h1 : Reads w w.heap.size 1 A1 n1 (rs1.map fun x : Rc => x.1)) (h2 : Reads w w.heap.size 1 A2 n2 (rs2.map fun x : Rc => x.1)) (hr1 : ∀ x ∈ rs1, RecR w w.heap.size x) (hr2 : ∀ x ∈ rs2, RecR w w.heap.size x)
    (hn1 : n1 ≤ 9223372036854775807) (hs1 : ∀ x ∈ rs1, x.2.length ≤ 9223372036854775807) :
    Calls Try.prog 30 #[.slice A1 n1 c1, .slice A2 n2 c2] w fun e w' => e = .returned (.bool (decide (rs1.map (·.2) = rs2.map (·.2)))) ∧ Below w.heap.size w w' := by
  have hl1 : rs1.length = n1 := by have := h1.1; simpa using this
  have hl2 : rs2.length = n2 := by have := h2.1; simpa using this
  have HR1 := Lib.hid h1
  have HR2 := Lib.hid h2
  have HX1 := Lib.hid hr1
  have HX2 := Lib.hid hr2
  have HL1 := Lib.hid hl1
  have HL2 := Lib.hid hl2
  have HS1 := Lib.hid hs1
  by_cases hn : n1 = n2
  · subst hn
    clear h1 h2 hr1 hr2 hs1 hl1 hl2
    have hnb : ((n1 : Int) != (n1 : Int)) = false := by simp
    go_enter Try.func30, Try.ntmps30
    go_wp2_with fail
    go_loopw [5] (fun v5 wr => ∃ i : Nat, v5 = .int .i64 i ∧ i ≤ n1 ∧ (rs1.take i).map (·.2) = (rs2.take i).map (·.2) ∧ Below w.heap.size w wr) (fun v5 _ => n1 - (intOf v5).toNat)
    case atStart => exact ⟨0, rfl, Nat.zero_le _, by simp, Below.refl _ _⟩
    case round =>
      obtain ⟨i, rfl, hi, he, hB⟩ := hrel
      by_cases hin : i < n1
      · have hi1 : i < rs1.length := by have := HL1.out; omega
        have hi2 : i < rs2.length := by have := HL2.out; omega
        obtain ⟨b1, o1, rfl, hb1, hc1⟩ := Reads.form (HR1.out.below hB) (by omega)
        obtain ⟨b2, o2, rfl, hb2, hc2⟩ := Reads.form (HR2.out.below hB) (by omega)
        have q1 := hc1 i rs1[i].1 (by simp [hi1])
        have q2 := hc2 i rs2[i].1 (by simp [hi2])
        obtain ⟨B1, d1, e1, R1⟩ := HX1.out rs1[i] (List.getElem_mem hi1)
        obtain ⟨B2, d2, e2, R2⟩ := HX2.out rs2[i] (List.getElem_mem hi2)
        rw [e1] at q1
        rw [e2] at q2
        have hs := HS1.out rs1[i] (List.getElem_mem hi1)
        have HT : Hid (((rs1.take (i + 1)).map (·.2) = (rs2.take (i + 1)).map (·.2)) ↔ rs1[i].2 = rs2[i].2) := Lib.hid (by
          rw [List.take_succ_eq_append_getElem hi1, List.take_succ_eq_append_getElem hi2, List.map_append, List.map_append, he]
          simp)
        have HE := Lib.hid he
        have HNE : Hid (rs1[i].2 ≠ rs2[i].2 → ¬ rs1.map (·.2) = rs2.map (·.2)) := Lib.hid (by
          intro hne h
          apply hne
          have h3 := congrArg (fun l => l[i]?) h
          simp only [List.getElem?_map, List.getElem?_eq_getElem hi1, List.getElem?_eq_getElem hi2, Option.map_some, Option.some.injEq] at h3
          exact h3)
        generalize rs1[i].2 = l1 at *
        generalize rs2[i].2 = l2 at *
        have s1 := cell_regrown q1
        have s2 := cell_regrown q2
        have hw := hB.size
        have R1' := (R1.below hB).more hw
        have R2' := (R2.below hB).more hw
        obtain ⟨y, hy⟩ : ∃ y, decide (l1 = l2) = y := ⟨_, rfl⟩
        have k1 : ∀ d os, Calls Try.prog 32 #[.slice B1 l1.length d1, .slice B2 l2.length d2] (grow (redrawn wr d) os) fun e w'' => e = .returned (.bool y) ∧ ∃ p : Regrown, w'' = grow (redrawn wr p.d) p.os := fun d os => Calls.regrown_of (by
          have bz := below_regrown wr d os
          have h9 := bytes_Equal B1 B2 _ _ d1 d2 l1 l2 _ ((R1'.below bz).more bz.size) ((R2'.below bz).more bz.size) hs
          rw [hy] at h9
          exact h9)
        have HY := Lib.hid hy
        clear hy
        clear he hc1 hc2 e1 e2 R1 R2
        go_upto_region 6 with fail
        refine wp_region_quiet_below (by kernel_rfl) (by kernel_rfl) ?_
        repeat (go_big_quiet_step (exact k1 _ _))
        refine wpQuiet_nil ?_
        intro _ hw'
        obtain ⟨⟨dq, osq⟩, hw''⟩ := hw'
        subst hw''
        replace hB := below_regrown_of hB hB.size dq osq
        clear s1 s2 k1 q1 q2 R1' R2'
        cases y
        · have hf := Lib.hid (HNE.out (of_decide_eq_false HY.out))
          go_wp2_with fail
          go_ret
          exact ⟨by rw [decide_eq_false hf.out]; rfl, hB⟩
        · have HT2 := Lib.hid (HT.out.2 (of_decide_eq_true HY.out))
          go_wp2_with fail
          go_roundw
          case rel => exact ⟨i + 1, by go_num, by omega, HT2.out, hB⟩
          case measure => simp [intOf]; omega
      · have HT : Hid (rs1.map (·.2) = rs2.map (·.2)) := Lib.hid (by
          rw [List.take_of_length_le (by have := HL1.out; omega), List.take_of_length_le (by have := HL2.out; omega)] at he
          exact he)
        clear he
        go_wp2_with fail
        go_ret
        exact ⟨by rw [decide_eq_true HT.out]; rfl, hB⟩
  · have hf : ¬ rs1.map (·.2) = rs2.map (·.2) := by
      intro h
      have := congrArg List.length h
      simp at this
      omega
    have hnb : ((n1 : Int) != (n2 : Int)) = true := by simp; omega
    have HF := Lib.hid hf
    clear h1 h2 hr1 hr2 hs1 hl1 hl2 hf hn
    go_enter Try.func30, Try.ntmps30
    go_wp2_with fail
    go_ret
    exact ⟨by rw [decide_eq_false HF.out]; rfl, Below.refl _ _⟩

theorem fr1_bad (l : List UInt8) (v m : Nat) (e0 : Int) (h : rnum l = (v, m, e0)) (hb : e0 ≠ 0 ∨ (1048576 : Int) < (v : Int) ∨ l.length - m < v) : (fr1 l).2.2 ≠ 0 := by
  have hq : rNum l 0 = (v, m, e0) := h
  unfold fr1 rText
  rw [hq]
  simp only []
  by_cases h1 : e0 ≠ 0
  · rw [if_pos h1]; exact h1
  · rw [if_neg h1]
    by_cases h2 : (1048576 : Int) < (v : Int)
    · rw [if_pos h2]; decide
    · rw [if_neg h2]
      have h3 : l.length - m < v := by
        rcases hb with h | h | h
        · exact absurd h h1
        · exact absurd h h2
        · exact h
      rw [if_pos h3]
      decide
theorem fr1_good (l : List UInt8) (v m : Nat) (h : rnum l = (v, m, 0)) (h2 : ¬ (1048576 : Int) < (v : Int)) (h3 : ¬ l.length - m < v) : fr1 l = ((l.drop m).take v, m + v, 0) := by
  have hq : rNum l 0 = (v, m, 0) := h
  unfold fr1 rText
  rw [hq]
  simp only []
  rw [if_neg (by simp), if_neg h2, if_neg h3]

set_option maxRecDepth 100000 in
set_option maxHeartbeats 4000000 in
theorem ref12_All (A : Option Addr) (n c : Nat) (l : List UInt8) (w : World) (hr : Reads w w.heap.size 1 A n (l.map vb)) (hnc : n ≤ c) (hn : n ≤ 1000000) :
    Calls Try.prog 34 #[.slice A n c] w fun e w' => ∃ v rs, e = .returned (.tuple #[v, .int .i64 ((frA l).2 : Nat)]) ∧ OwnV w' w.heap.size v rs ∧ rs.map (·.2) = (frA l).1 ∧ (∀ x ∈ rs, RecR w w.heap.size x) ∧ Below w.heap.size w w' := by
  have HR := Lib.hid hr
  have HL := Lib.hid hr.len
  clear hr
  go_enter Try.func34, Try.ntmps34
  go_wp2_with fail
  go_loopw [4, 5] (fun v4 v5 wr => ∃ (k : Nat) (rs : List Rc), v5 = .int .i64 k ∧ k ≤ n ∧ OwnV wr w.heap.size v4 rs ∧ rs.length ≤ k ∧ (frA l).2 = k + (frA (l.drop k)).2 ∧ (frA l).1 = rs.map (·.2) ++ (frA (l.drop k)).1 ∧ (∀ x ∈ rs, RecR w w.heap.size x) ∧ Below w.heap.size w wr) (fun _ v5 _ => n - (intOf v5).toNat)
  case atStart => exact ⟨0, [], rfl, Nat.zero_le _, OwnV.nil_ _ _, Nat.le_refl _, by simp, by simp, by simp, Below.refl _ _⟩
  case round =>
    obtain ⟨k, rs, rfl, hk, hO, hrl, hq, hq1, hx, hB⟩ := hrel
    by_cases hkn : k < n
    · have hrd := (HR.out.below hB).from_ k hk hnc
      have hdl : (l.drop k).length = n - k := by rw [List.length_drop, HL.out]
      have hne : l.drop k ≠ [] := by intro h; rw [h] at hdl; simp at hdl; omega
      obtain ⟨v, m, e0, hv⟩ : ∃ v m e0, rnum (l.drop k) = (v, m, e0) := ⟨_, _, _, rfl⟩
      have hbad := fr1_bad (l.drop k) v m e0 hv
      rw [hdl] at hbad
      have hfm : m ≤ n - k := by
        have := (rNum_facts (l.drop k) 0).2.1
        rw [show rNum (l.drop k) 0 = rnum (l.drop k) from rfl, hv, hdl] at this
        exact this
      have hstop := frA_stop (l.drop k)
      by_cases hck : c = k
      · omega
      have hR := hrd.2 hck
      have hN := ref03_Num _ (n - k) (c - k) (l.drop k) wr w.heap.size hR (by omega)
      rw [hv] at hN
      have HN := Lib.hid hN
      clear hN hrd hR
      have HOUT : Hid ((fr1 (l.drop k)).2.2 ≠ 0 → (frA l).2 = k ∧ (frA l).1 = rs.map (·.2)) := Lib.hid (by
        intro h
        have hs := hstop (.inr h)
        rw [hq, hq1, hs]
        exact ⟨rfl, by simp⟩)
      by_cases he : e0 ≠ 0
      · have hX := Lib.hid (HOUT.out (hbad (.inl he)))
        have HX := Lib.hid hx
        have hb1 : (e0 != 0) = true := by simp [he]
        have HO := Lib.hid hO
        clear hx hO hq hq1 hbad hstop hv he HOUT
        go_wp2_with fail
        refine HN.out.mono ?_
        rintro e w1 ⟨rfl, rfl⟩
        go_wp2_with fail
        go_ret2
        exact ⟨_, rs, by rw [hX.out.1]; rfl, HO.out, hX.out.2.symm, HX.out, hB⟩
      · have he0 : e0 = 0 := Classical.not_not.1 he
        subst he0
        by_cases h2 : (1048576 : Int) < (v : Int)
        · have hX := Lib.hid (HOUT.out (hbad (.inr (.inl h2))))
          have HX := Lib.hid hx
          have HO := Lib.hid hO
          clear hx hO hq hq1 hbad hstop hv he HOUT
          go_wp2_with fail
          refine HN.out.mono ?_
          rintro e w1 ⟨rfl, rfl⟩
          go_wp2_with fail
          go_ret2
          exact ⟨_, rs, by rw [hX.out.1]; rfl, HO.out, hX.out.2.symm, HX.out, hB⟩
        · by_cases h3 : n - k - m < v
          · have hX := Lib.hid (HOUT.out (hbad (.inr (.inr h3))))
            have HX := Lib.hid hx
            have HO := Lib.hid hO
            have h3b : (n : Int) - (k : Int) - (m : Int) < (v : Int) := by omega
            clear hx hO hq hq1 hbad hstop hv he HOUT
            go_wp2_with fail
            refine HN.out.mono ?_
            rintro e w1 ⟨rfl, rfl⟩
            go_wp2_with fail
            go_ret2
            exact ⟨_, rs, by rw [hX.out.1]; rfl, HO.out, hX.out.2.symm, HX.out, hB⟩
          · have hg := fr1_good (l.drop k) v m hv h2 (by rw [hdl]; exact h3)
            have hst := frA_step (l.drop k) hne (by rw [hg])
            have hps := fr1_pos (l.drop k) (by rw [hg])
            rw [hg] at hst hps
            simp only [List.drop_drop] at hst hps
            have HA : Hid ((frA l).2 = (k + (m + v)) + (frA (l.drop (k + (m + v)))).2 ∧ (frA l).1 = (rs.map (·.2) ++ [(l.drop (k + m)).take v]) ++ (frA (l.drop (k + (m + v)))).1) := Lib.hid (by
              rw [hq, hq1, hst]
              constructor
              · simp only []; omega
              · simp only [List.append_assoc, List.singleton_append])
            have hpos := hps.1
            have h3b : ¬ (n : Int) - (k : Int) - (m : Int) < (v : Int) := by omega
            have hRP : Reads w w.heap.size 1 (A.map (·.add (k + m))) v (((l.drop (k + m)).take v).map vb) := HR.out.part (k + m) v (by omega)
            have hlv : ((l.drop (k + m)).take v).length = v := by rw [List.length_take, List.length_drop, HL.out]; omega
            have HRP := Lib.hid (And.intro hRP hlv)
            have HX := Lib.hid hx
            have HO := Lib.hid hO
            have w1' : IntKind.i64.wrap ((k : Int) + (m : Int)) = (k : Int) + m := by rw [IntKind.wrap_i64]; omega
            have w2' : IntKind.i64.wrap ((k : Int) + (m : Int) + (v : Int)) = (k : Int) + m + v := by rw [IntKind.wrap_i64]; omega
            have s1 : 0 ≤ (k : Int) + m + v := by omega
            have s2 : (k : Int) + m + v ≤ c := by omega
            have s3 : 0 ≤ (k : Int) + m := by omega
            have s4 : (k : Int) + m ≤ max ((k : Int) + m + v) 0 := by omega
            have hw1 := hB.size
            clear hx hO hq hq1 hbad hstop hv he HOUT hg hst hps hRP hlv
            go_wp2_with fail
            refine HN.out.mono ?_
            rintro e w1 ⟨rfl, rfl⟩
            by_cases hcm : c = k + m
            · have hv0 : v = 0 := by omega
              go_wp2_with (at_builtin; go_must (refine append_rec wr (.slice A 0 0, (l.drop (k + m)).take v) rfl _ rfl _ rfl _ _ rfl w.heap.size u4 rs rfl HO.out rfl (by omega) hw1 ?_); intro v' w2 O2 G2 L2)
              have HCM := Lib.hid hcm
              rw [← hcm]
              clear hcm
              have hB2 := below_own hB hw1 HO.out (Nat.le_refl _) G2
              have HX2 : Hid (∀ x ∈ rs ++ [(.slice A 0 0, (l.drop (k + m)).take v)], RecR w w.heap.size x) := Lib.hid (by
                intro x hx
                rcases List.mem_append.1 hx with hx | hx
                · exact HX.out x hx
                · rw [List.mem_singleton] at hx
                  subst hx
                  exact ⟨A, 0, by rw [HRP.out.2, hv0], ⟨by simp, fun h => absurd h (by rw [HRP.out.2]; omega)⟩⟩)
              clear G2 L2 hB
              have hB := hB2
              go_wp2_with fail
              go_roundw
              case rel => exact ⟨k + (m + v), rs ++ [(.slice A 0 0, (l.drop (k + m)).take v)], by first | go_num | (congr 1; omega) | congr 1, by omega, O2, by simp only [List.length_append, List.length_cons, List.length_nil]; omega, HA.out.1, by simpa using HA.out.2, HX2.out, hB⟩
              case measure => simp [intOf]; omega
            · go_wp2_with (at_builtin; go_must (refine append_rec wr (.slice (A.map (·.add (k + m))) v (c - (k + m)), (l.drop (k + m)).take v) rfl _ rfl _ rfl _ _ rfl w.heap.size u4 rs rfl HO.out rfl (by omega) hw1 ?_); intro v' w2 O2 G2 L2)
              have hB2 := below_own hB hw1 HO.out (Nat.le_refl _) G2
              have HX2 : Hid (∀ x ∈ rs ++ [(.slice (A.map (·.add (k + m))) v (c - (k + m)), (l.drop (k + m)).take v)], RecR w w.heap.size x) := Lib.hid (by
                intro x hx
                rcases List.mem_append.1 hx with hx | hx
                · exact HX.out x hx
                · rw [List.mem_singleton] at hx
                  subst hx
                  exact ⟨A.map (·.add (k + m)), _, by rw [HRP.out.2], by rw [HRP.out.2]; exact HRP.out.1⟩)
              clear G2 L2 hB
              have hB := hB2
              go_wp2_with fail
              go_roundw
              case rel => exact ⟨k + (m + v), rs ++ [(.slice (A.map (·.add (k + m))) v (c - (k + m)), (l.drop (k + m)).take v)], by first | go_num | (congr 1; omega) | congr 1, by omega, O2, by simp only [List.length_append, List.length_cons, List.length_nil]; omega, HA.out.1, by simpa using HA.out.2, HX2.out, hB⟩
              case measure => simp [intOf]; omega
    · have hke : k = n := by omega
      have hs := frA_stop (l.drop k) (.inl (by rw [List.drop_eq_nil_of_le]; rw [HL.out]; omega))
      have hX := Lib.hid (show (frA l).2 = k ∧ (frA l).1 = rs.map (·.2) by rw [hq, hq1, hs]; exact ⟨rfl, by simp⟩)
      have HX := Lib.hid hx
      have HO := Lib.hid hO
      clear hx hO hq hq1 hs
      go_wp2_with fail
      go_ret2
      exact ⟨_, rs, by rw [hX.out.1]; rfl, HO.out, hX.out.2.symm, HX.out, hB⟩
end Go.Proofs.Ytfebncpfhdgkpaa
