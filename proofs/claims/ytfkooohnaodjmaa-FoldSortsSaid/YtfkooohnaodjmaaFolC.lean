/- Contracts of fold.Chunks and of the reference's Chunks. -/
import Derived.Test.YtfkooohnaodjmaaFolB
import Derived.Test.YtfkooohnaodjmaaKeep
import Derived.Test.YtfkooohnaodjmaaHang
import Derived.Test.YtfkooohnaodjmaaMixK
import Derived.Deep.CutRange
namespace Go.Proofs.Ytfkooohnaodjmaa
open Go.RowKit Go.Sort

def chL (c : Ch) : List Value := [.string c.1, .bool c.2]
/-- A row of chunks that the call owns. -/
def OwnK (T : TypeId) (w : World) (base : Nat) (v : Value) (C : List Ch) : Prop := w.ownsRow base T 2 v C.length (C.flatMap chL)
theorem OwnK.below {T : TypeId} {w w' : World} {base : Nat} {v : Value} {C : List Ch} (h : OwnK T w base v C) (b : Below w.heap.size w w') : OwnK T w' base v C := own_below h b
theorem OwnK.base_le {T : TypeId} {w : World} {base base' : Nat} {v : Value} {C : List Ch} (h : OwnK T w base v C) (hb : base' ≤ base) : OwnK T w base' v C := own_base h hb
theorem ch_len : ∀ C : List Ch, (C.flatMap chL).length = C.length * 2
  | [] => rfl
  | c :: C => by rw [List.flatMap_cons, List.length_append, ch_len C, List.length_cons]; show 2 + _ = _; omega
theorem ch_get : ∀ (C : List Ch) (k : Nat) (hk : k < C.length), (C.flatMap chL)[k * 2]? = some (.string C[k].1) ∧ (C.flatMap chL)[k * 2 + 1]? = some (.bool C[k].2)
  | c :: C, 0, _ => ⟨rfl, rfl⟩
  | c :: C, k + 1, hk => by
    have ih := ch_get C k (by simpa using hk)
    rw [show (k + 1) * 2 = (k * 2) + 1 + 1 by omega, show k * 2 + 1 + 1 + 1 = (k * 2 + 1) + 1 + 1 by omega]
    exact ih
theorem ch_set : ∀ (D : List Ch) (t u : ByteArray) (b : Bool), ((D ++ [(t, b)]).flatMap chL).set (D.length * 2) (.string u) = (D ++ [(u, b)]).flatMap chL
  | [], t, u, b => rfl
  | c :: D, t, u, b => by
    have ih := ch_set D t u b
    show (Value.string c.1 :: Value.bool c.2 :: (D ++ [(t, b)]).flatMap chL).set ((D.length + 1) * 2) (.string u) = Value.string c.1 :: Value.bool c.2 :: (D ++ [(u, b)]).flatMap chL
    rw [show (D.length + 1) * 2 = D.length * 2 + 1 + 1 by omega, List.set_cons_succ, List.set_cons_succ, ih]
theorem info_chunk : (Try.prog.info? 75).map (fun i => (i.zero, i.size, i.bytes)) = some (some (.agg #[.string ⟨#[]⟩, .bool false]), 2, 24) := by kernel_rfl
theorem info_refc : (Try.prog.info? 81).map (fun i => (i.zero, i.size, i.bytes)) = some (some (.agg #[.string ⟨#[]⟩, .bool false]), 2, 24) := by kernel_rfl
theorem append_chunk {ops : Array Oper} {rest : List Oper} {o : Oper} {a : Act} {Q : Exit → Act → World → Prop} (w : World) (c0 : Ch) (u : Array Value) (hu : u.toList = chL c0) (t : TypeId) (hgd : o.guard = none) (sl x : Operand)
    (ho : o.op = .call { callee := .builtin .append, args := #[sl, x], argTypes := #[72, 72] }) (base : Nat) (v : Value) (S : List Ch) (hs : a.eval sl = v) (hown : OwnK 75 w base v S)
    (hx : a.eval x = .slice (some ⟨w.heap.size, 0, none⟩) 1 1) (hlen : S.length ≤ 1000000000) (hbase : base ≤ w.heap.size)
    (h : ∀ v' w', OwnK 75 w' base v' (S ++ [c0]) → w.grownBy w' v.ownBlock → LiesIn w v v' → wpList Try.prog ops Q rest (a.put o.dst v') w') :
    wpList Try.prog ops Q (o :: rest) a (w.alloc (.cells u t)) := by
  refine append_elem w u (chL c0) hu t hgd sl x 72 ho base 75 _ 2 24 Try.underlying72 info_chunk rfl (by decide) v S.length (S.flatMap chL) hs hown rfl (fun u hu => by simp only [chL, List.mem_cons, List.mem_nil_iff, or_false] at hu; rcases hu with rfl | rfl <;> rfl) hx (by unfold maxLen; omega) (by omega) hbase ?_
  intro v' w' h1 h2 h3
  refine h v' w' ?_ h2 h3
  unfold OwnK
  rw [List.flatMap_append, List.length_append]
  simpa using h1
theorem append_refc {ops : Array Oper} {rest : List Oper} {o : Oper} {a : Act} {Q : Exit → Act → World → Prop} (w : World) (c0 : Ch) (u : Array Value) (hu : u.toList = chL c0) (t : TypeId) (hgd : o.guard = none) (sl x : Operand)
    (ho : o.op = .call { callee := .builtin .append, args := #[sl, x], argTypes := #[78, 78] }) (base : Nat) (v : Value) (S : List Ch) (hs : a.eval sl = v) (hown : OwnK 81 w base v S)
    (hx : a.eval x = .slice (some ⟨w.heap.size, 0, none⟩) 1 1) (hlen : S.length ≤ 1000000000) (hbase : base ≤ w.heap.size)
    (h : ∀ v' w', OwnK 81 w' base v' (S ++ [c0]) → (w.alloc (.cells u t)).grownBy w' v.ownBlock → wpList Try.prog ops Q rest (a.put o.dst v') w') :
    wpList Try.prog ops Q (o :: rest) a (w.alloc (.cells u t)) := by
  obtain ⟨i0, hi, hz0, hz1, hz2⟩ := info_parts info_refc
  refine wpList_append_any (w.alloc (.cells u t)) hgd sl x 78 ho base 81 i0 (.agg #[.string ⟨#[]⟩, .bool false]) 2 24 Try.underlying78 hi hz0 hz1 hz2 rfl (by decide) v S.length (S.flatMap chL) hs (World.ownsRow.alloc hown _) _ _ 1 1 (chL c0) hx (reads_new w t 2 u (chL c0) hu rfl) (fun u hu => by simp only [chL, List.mem_cons, List.mem_nil_iff, or_false] at hu; rcases hu with rfl | rfl <;> rfl) (by unfold maxLen; omega) (by omega) (by simp; omega) ?_
  intro v' w' h1 h2 h3
  refine h v' w' ?_ h2
  unfold OwnK
  rw [List.flatMap_append, List.length_append]
  simpa using h1
theorem own_at {T : TypeId} {w : World} {base g c : Nat} {C : List Ch} (h : OwnK T w base (.slice (some ⟨g, 0, none⟩) C.length c) C) (k : Nat) (hk : k < C.length) : w.cell? ⟨g, k * 2, none⟩ = some (.string C[k].1) ∧ w.cell? ⟨g, k * 2 + 1, none⟩ = some (.bool C[k].2) := by
  obtain ⟨h1, h2⟩ := ch_get C k hk
  have a1 := World.ownsRow.cells h (g := g) rfl _ _ h1
  have a2 := World.ownsRow.cells h (g := g) rfl _ _ h2
  rw [add_lit] at a1 a2
  rw [Nat.zero_add] at a1 a2
  exact ⟨a1, a2⟩
theorem OwnK.form {T : TypeId} {w : World} {base : Nat} {v : Value} {C : List Ch} (h : OwnK T w base v C) : ∃ A c, v = .slice A C.length c ∧ C.length ≤ c ∧ (A = none → c = 0) ∧ (0 < C.length → ∃ g, A = some ⟨g, 0, none⟩ ∧ base ≤ g ∧ g < w.heap.size) := by
  obtain ⟨A, c, rfl, hc, hA, hg⟩ := own_form h
  exact ⟨A, c, rfl, hc, hA, fun h0 => by obtain ⟨g, e, h1, h2, _⟩ := hg h0; exact ⟨g, e, h1, h2⟩⟩

theorem enc_bl (r : Nat) : bl (Utf8.encode (r : Int)) = enc r := by unfold enc; exact Eq.refl _
theorem strE_snoc (R : List Nat) (r : Nat) : strE (R ++ [r]) = strE R ++ Utf8.encode (r : Int) := by
  obtain ⟨E, hE⟩ : ∃ E, Utf8.encode (r : Int) = E := ⟨_, rfl⟩
  have h := enc_bl r
  rw [hE] at h ⊢
  refine (strE_of ?_).symm
  rw [bl_appF, bl_strE, encs_append, h]
  simp [encs]
theorem ch_mk (R : List Nat) (b : Bool) : Chk.ch (R, b) = (strE R, b) := by unfold Chk.ch; exact Eq.refl _
/-- What a text's chunks are behind one rune more. -/
theorem ch_next (Rk : List Nat) (r : Nat) : ∃ (D : List Ch) (t : ByteArray), ((chP (Rk ++ [r])).map Chk.ch = D ++ [(t ++ Utf8.encode (r : Int), dig r)]) ∧
    ((lastB (chP Rk) (dig r) = false ∧ D = (chP Rk).map Chk.ch ∧ t = strE [] ∧ ∀ c, ((chP Rk).map Chk.ch).getLast? = some c → c.2 ≠ dig r) ∨ (lastB (chP Rk) (dig r) = true ∧ (chP Rk).map Chk.ch = D ++ [(t, dig r)])) := by
  have e0 : chP (Rk ++ [r]) = addC (chP Rk) r := by unfold chP; rw [List.foldl_append]; rfl
  have hE : ∀ R : List Nat, strE (R ++ [r]) = strE R ++ Utf8.encode (r : Int) := fun R => strE_snoc R r
  generalize Utf8.encode (r : Int) = E at hE ⊢
  rw [e0]
  by_cases h : lastB (chP Rk) (dig r) = true
  · unfold lastB at h
    cases hg : (chP Rk).getLast? with
    | none => rw [hg] at h; cases h
    | some c =>
      rw [hg] at h
      have h2 : c.2 = dig r := by simpa using h
      obtain ⟨D, hD⟩ : ∃ D, chP Rk = D ++ [c] := by
        obtain ⟨ys, hy⟩ := List.getLast?_eq_some_iff.1 hg
        exact ⟨ys, hy⟩
      obtain ⟨t, b⟩ := c
      simp only at h2
      subst h2
      refine ⟨D.map Chk.ch, strE t, ?_, .inr ⟨by unfold lastB; rw [hg]; simp, by rw [hD]; simp [Chk.ch]⟩⟩
      rw [hD, addC_old, List.map_append]
      show D.map Chk.ch ++ [(strE (t ++ [r]), dig r)] = _
      rw [hE]
  · have h : lastB (chP Rk) (dig r) = false := by simpa using h
    refine ⟨(chP Rk).map Chk.ch, strE [], ?_, .inl ⟨h, rfl, rfl, fun c hc he => ?_⟩⟩
    · have h9 := hE []
      rw [List.nil_append] at h9
      rw [addC_new h, List.map_append, List.map_cons, List.map_nil, ch_mk, h9]
    · unfold lastB at h
      rw [List.getLast?_map] at hc
      cases hg : (chP Rk).getLast? with
      | none => rw [hg] at hc; cases hc
      | some e =>
        rw [hg] at hc h
        have h3 : Chk.ch e = c := by simpa using hc
        rw [← h3] at he
        have h4 : e.2 = dig r := he
        simp [h4] at h

set_option maxRecDepth 100000 in
set_option maxHeartbeats 4000000 in
theorem fold_Chunks (s : ByteArray) (hs : s.size ≤ 100000000) (w : World) : Calls Try.prog 34 #[.string s] w fun e w' => ∃ v, e = .returned v ∧ OwnK 75 w' w.heap.size v (chunksB s) ∧ Below w.heap.size w w' := by
  obtain ⟨B, hB9⟩ : ∃ B, chunksB s = B := ⟨_, rfl⟩
  have HBB := Lib.hid hB9
  rw [hB9]
  clear hB9
  go_enter Try.func34, Try.ntmps34
  go_wp2_with fail
  have O0 : OwnK 75 (w.iter s 0) w.heap.size (.slice none 0 0) [] := World.ownsRow_nil _ _ _ _
  go_loopw [3, 5, 6] (fun v3 _ _ wr => ∃ (k : Nat) (Rk : List Nat) (C : List Ch), It wr w.heap.size s k ∧ w.heap.size < wr.heap.size ∧ Below w.heap.size w wr ∧ k ≤ s.size ∧ rest s 0 = Rk ++ rest s k ∧ (chP Rk).map Chk.ch = C ∧ C.length ≤ k ∧ (∀ c ∈ C, c.1.size ≤ 4 * k) ∧ OwnK 75 wr w.heap.size v3 C) (fun _ _ _ wr => s.size - wr.iterPos w.heap.size)
  case atStart => exact ⟨0, [], [], It.new _ _ _, (It.new _ _ _).lt, below_iter (Below.refl _ _) (Nat.le_refl _) _ _, Nat.zero_le _, rfl, rfl, Nat.le_refl _, (fun _ h => by cases h), O0⟩
  case round =>
    clear O0
    obtain ⟨k, Rk, C, BI, hlt, hB, hks, hR, hC, hCl, hCt, hO⟩ := hrel
    have hpos := BI.pos
    have HR := Lib.hid hR
    have HO := Lib.hid hO
    clear hR hO
    by_cases hk : k < s.size
    · obtain ⟨r, d, hD, hd1, hr, _⟩ := decode_some s k hk
      have hnx : ∀ ty, (Instr.next (.pointer (some ⟨w.heap.size, 0, none⟩)) true ty).run Try.prog wr = .ok (.tuple #[.bool true, .int .i64 k, .int .i32 r]) (wr.iterAt w.heap.size s (k + d)) := by
        intro ty
        rw [Lib.run_next_any_at wr _ s k ty BI hk, hD]
      have BI2 := BI.at_ (k + d)
      have hB2 := Lib.below_iterAt hB (k := w.heap.size) (Nat.le_refl _) s (k + d)
      have hdk : k + d ≤ s.size := rune_end s k hk hD
      have HPOS := Lib.hid hpos
      have HRS : Hid (rest s 0 = (Rk ++ [r]) ++ rest s (k + d)) := Lib.hid (by rw [HR.out, rest_cons s k hk hD hd1]; simp)
      have O4 : OwnK 75 (wr.iterAt w.heap.size s (k + d)) w.heap.size u3 C := own_iterAt HO.out BI (k + d)
      obtain ⟨D, t, hnx2, hcase⟩ := ch_next Rk r
      rw [hC] at hcase
      have HNX := Lib.hid hnx2
      obtain ⟨A3, c3, rfl, hcc, hA3, hg3⟩ := O4.form
      have HO4 := Lib.hid O4
      have hbs := hB2.size
      have hCb : C.length ≤ 1000000000 := by omega
      obtain ⟨m, hm⟩ : ∃ m, C.length = m := ⟨_, rfl⟩
      have HM := Lib.hid hm
      have HCT := Lib.hid hCt
      rw [hm] at hCl hg3 hCb
      rw [hm]
      have hen := enc_length r
      obtain ⟨E, hE⟩ : ∃ E, Utf8.encode (r : Int) = E := ⟨_, rfl⟩
      have heE : enc r = bl E := by rw [← enc_bl, hE]
      rw [heE, bl_length] at hen
      rw [hE] at HNX
      have HE := Lib.hid hE
      clear heE hE
      clear hD BI hB hlt hpos HO O4 hnx2 hC hm hCt hcc hA3 HR
      generalize wr.iterAt w.heap.size s (k + d) = w2 at *
      obtain ⟨q, hq⟩ : ∃ q, lastB (chP Rk) (dig r) = q := ⟨_, rfl⟩
      rw [hq] at hcase
      clear hq
      go_upto_region 6 with fail
      go_cut [26] from 9 to 44 (fun s26 wx => s26 = .bool (!q) ∧ Below w2.heap.size w2 wx)
      case first =>
        have k1 : ∀ d os, Calls Try.prog 55 #[.int .i32 r] (grow (redrawn w2 d) os) fun e w'' => e = .returned (.bool (dig r)) ∧ ∃ p : Regrown, w'' = grow (redrawn w2 p.d) p.os := fun d os => Calls.regrown_of ((fold_digit r _).mono fun e w' ⟨he, hw⟩ => ⟨he, hw ▸ Below.refl _ _⟩)
        by_cases hm0 : m = 0
        · subst hm0
          have hqf : q = false := by
            rcases hcase with ⟨h, _⟩ | ⟨h, h2⟩
            · exact h
            · have := congrArg List.length h2
              rw [HM.out, List.length_append] at this
              simp at this
          subst hqf
          clear hcase k1
          go_region
          go_wp2_with fail
          go_meet
          case rel => exact ⟨rfl, (Below.refl _ w2).drew⟩
        · obtain ⟨g, rfl, hg1, hg2⟩ := hg3 (by omega)
          obtain ⟨p, hp⟩ : ∃ p, m = p + 1 := ⟨m - 1, by omega⟩
          have hpC : p < C.length := by have := HM.out; omega
          have O5 := HO4.out
          have cc := (own_at O5 p hpC).2
          have hqq : (C[p].2 != dig r) = !q := by
            obtain ⟨z, hz⟩ : ∃ z, C[p]'hpC = z := ⟨_, rfl⟩
            rw [hz]
            have hl : C.getLast? = some z := by rw [List.getLast?_eq_getElem?, HM.out, hp, Nat.add_sub_cancel, List.getElem?_eq_getElem hpC, hz]
            rcases hcase with ⟨h, _, _, h2⟩ | ⟨h, h2⟩
            · rw [h]
              simpa using h2 _ hl
            · rw [h]
              rw [h2] at hl
              simp at hl
              rw [← hl]
              simp
          obtain ⟨b, hb⟩ : ∃ b, C[p].2 = b := ⟨_, rfl⟩
          rw [hb] at cc hqq
          subst hp
          have q0 := cell_regrown cc
          have hd0 : decide ((p : Int) < 0) = false := decide_eq_false (by omega)
          have hd1' : ((p + 1 : Nat) : Int) - 1 = (p : Int) := by omega
          clear cc hcase hb O5 hm0
          refine wp_region_quiet_below (by kernel_rfl) (by kernel_rfl) ?_
          repeat (go_big_quiet_step (exact k1 _ _))
          refine wpQuiet_nil ?_
          rintro w1 ⟨⟨dq, osq⟩, rfl⟩
          have b9 := below_regrown w2 dq osq
          go_wp2_with fail
          go_meet
          case rel => exact ⟨by rw [← hqq]; rfl, b9⟩
      case rest =>
      obtain ⟨rfl, b9⟩ := hcut
      have hz0 : strE [] = ⟨#[]⟩ := rfl
      have HCASE : Hid ((q = false ∧ D = C ∧ t = strE []) ∨ (q = true ∧ C = D ++ [(t, dig r)])) := Lib.hid (by
        rcases hcase with ⟨h, h1, h2, _⟩ | h
        · exact .inl ⟨h, h1, h2⟩
        · exact .inr h)
      have BI3 := BI2.below b9 BI2.lt
      have hB3 := hB2.trans (b9.mono hbs)
      have h5 := HO4.out.below b9
      rw [HM.out] at h5
      have HO5 := Lib.hid h5
      clear h5
      have hbs3 := hB3.size
      obtain ⟨W3, hW3⟩ : ∃ W3, W3 = wc := ⟨_, rfl⟩
      subst hW3
      obtain ⟨p, hp⟩ : ∃ p, D.length = p := ⟨_, rfl⟩
      have hpm : (q = false → p = m) ∧ (q = true → p + 1 = m) := by
        have hm := HM.out
        rcases HCASE.out with ⟨h, h1, _⟩ | ⟨h, h1⟩
        · exact ⟨fun _ => by rw [← hp, h1, hm], fun h9 => by rw [h] at h9; cases h9⟩
        · have := congrArg List.length h1
          rw [List.length_append, hm, hp] at this
          exact ⟨fun h9 => (by rw [h] at h9; cases h9), fun _ => this.symm⟩
      obtain ⟨b0, hb0⟩ : ∃ b0, dig r = b0 := ⟨_, rfl⟩
      have HPD := Lib.hid hp
      have HB0 := Lib.hid hb0
      have CD := Lib.hid (fun W => fold_digit r W)
      clear hcase b9 BI2 hB2 HO4 hp hg3 hz0
      go_upto_if 26 with fail
      go_cut [3, 6] from 9 to 44 (fun s3 s6 wx => OwnK 75 wx w.heap.size s3 (D ++ [(t, b0)]) ∧ s6 = .int .i64 p ∧ It wx w.heap.size s (k + d) ∧ Below w.heap.size w wx)
      case first =>
        cases q with
        | true =>
          have hx : (m : Int) - 1 = (p : Int) := by have := hpm.2 rfl; omega
          have HX : Hid (C = D ++ [(t, b0)]) := Lib.hid (by
            rcases HCASE.out with ⟨h, _⟩ | ⟨_, h⟩
            · cases h
            · rw [h, HB0.out])
          have HY := HO5.out
          rw [HX.out] at HY
          have HY2 := Lib.hid HY
          clear HY hpm hb0
          simp only [Bool.not_true]
          go_wp2_with fail
          go_meet
          case rel => exact ⟨HY2.out, by first | rfl | rw [hx], BI3, hB3⟩
        | false =>
          have hx : (m : Int) - 1 + 1 = (p : Int) := by have := hpm.1 rfl; omega
          have HX : Hid (D = C ∧ t = ⟨#[]⟩) := Lib.hid (by
            rcases HCASE.out with ⟨_, h, h2⟩ | ⟨h, _⟩
            · exact ⟨h, h2⟩
            · cases h)
          have HNE := Lib.hid (own_itne HO5.out BI3)
          have HLO := Lib.hid (fun q hq => (World.ownsRow.lt HO5.out q hq).1)
          clear hpm
          simp only [Bool.not_false]
          go_wp2_with fail
          refine (CD.out W3).mono ?_
          rintro e w9 ⟨rfl, rfl⟩
          rw [hb0]
          go_wp2_with (at_builtin; go_must (refine append_chunk W3 (⟨#[]⟩, b0) _ rfl _ rfl _ _ rfl w.heap.size _ C rfl HO5.out rfl (by rw [HM.out]; exact hCb) hbs3 ?_); intro v7 w7 O7 G7 _)
          go_meet
          case rel => exact ⟨by rw [HX.out.1, HX.out.2]; exact O7, by first | rfl | rw [hx], BI3.grown G7 HNE.out, Below.grown hB3 G7 hbs3 HLO.out⟩
      case rest =>
      obtain ⟨O6, rfl, BI6, hB6⟩ := hcut
      have hlD : (D ++ [(t, b0)]).length = p + 1 := by rw [List.length_append, HPD.out]; rfl
      obtain ⟨A6, c6, rfl, hcc6, -, hg6⟩ := O6.form
      obtain ⟨g, rfl, hg1, hg2⟩ := hg6 (by omega)
      have cc := (own_at O6 p (by omega)).1
      have he6 : (D ++ [(t, b0)])[p]'(by omega) = (t, b0) := by
        rw [List.getElem_append_right (by rw [HPD.out]; exact Nat.le_refl _)]
        simp
      rw [he6] at cc
      have HO6 := Lib.hid O6
      have HNE := Lib.hid (own_itne O6 BI6)
      have ff := World.ownsRow.frozenAt O6 (p * 2)
      have hts : t.size ≤ 4 * k := by
        rcases HCASE.out with ⟨_, _, h⟩ | ⟨_, h⟩
        · rw [h]; exact Nat.zero_le _
        · exact HCT.out (t, dig r) (by rw [h]; simp)
      have hE := HE.out
      rw [hlD] at hcc6 ⊢
      have hD2 := World.ownsRow.stored O6 (p * 2) (.string (t ++ E))
      have hss : ((D ++ [(t, b0)]).flatMap chL).set (p * 2) (.string (t ++ E)) = (D ++ [(t ++ E, b0)]).flatMap chL := by rw [← HPD.out]; exact ch_set D t (t ++ E) b0
      rw [hss] at hD2
      have HSET := Lib.hid hD2
      have hNX : (chP (Rk ++ [r])).map Chk.ch = D ++ [(t ++ E, b0)] := by rw [← HB0.out]; exact HNX.out
      have HNX2 := Lib.hid hNX
      have hpb : p ≤ k := by
        rcases HCASE.out with ⟨h, _⟩ | ⟨h, _⟩
        · have := hpm.1 h; omega
        · have := hpm.2 h; omega
      have hDt : Hid (∀ c ∈ D, c.1.size ≤ 4 * k) := Lib.hid (fun c hc => by
        rcases HCASE.out with ⟨_, h, _⟩ | ⟨_, h⟩
        · exact HCT.out c (by rw [← h]; exact hc)
        · exact HCT.out c (by rw [h]; exact List.mem_append_left _ hc))
      have hzz : (t ++ E).size = t.size + E.size := ByteArray.size_append
      clear O6 hg6 he6 hpm hD2 hss hNX HNX HCASE
      go_wp2_with fail
      go_roundw
      case rel =>
        have hne : w.heap.size ≠ g := fun e => HNE.out (by rw [e]; rfl)
        have BI7 : It (wc.setCell ⟨g, p * 2, none⟩ (.string (t ++ E))) w.heap.size s (k + d) := BI6.far (a := ⟨g, p * 2, none⟩) hne _
        refine ⟨k + d, Rk ++ [r], D ++ [(t ++ E, b0)], BI7, BI7.lt, below_set hB6 hg1 (p * 2) _, hdk, HRS.out, HNX2.out, ?_, ?_, ?_⟩
        · rw [List.length_append, HPD.out]; show p + 1 ≤ _; omega
        · intro c hc
          rcases List.mem_append.1 hc with hc | hc
          · have := hDt.out c hc; omega
          · rw [List.mem_singleton.1 hc]; show (t ++ E).size ≤ _; omega
        · unfold OwnK
          have h9 := HSET.out.1
          rw [hlD] at h9
          rw [show (D ++ [(t ++ E, b0)]).length = p + 1 by rw [List.length_append, HPD.out]; rfl]
          exact h9
      case measure =>
        have hne : w.heap.size ≠ g := fun e => HNE.out (by rw [e]; rfl)
        have BI7 : It (wc.setCell ⟨g, p * 2, none⟩ (.string (t ++ E))) w.heap.size s (k + d) := BI6.far (a := ⟨g, p * 2, none⟩) hne _
        rw [BI7.pos, HPOS.out]
        omega
    · have hnx : ∀ ty, (Instr.next (.pointer (some ⟨w.heap.size, 0, none⟩)) true ty).run Try.prog wr = .ok (.tuple #[.bool false]) wr := fun ty => Lib.run_next_end_at wr _ s k ty BI (by omega)
      have HX : Hid (C = B) := Lib.hid (by
        rw [← HBB.out, ← hC]
        unfold chunksB
        rw [HR.out, rest_end s k (by omega), List.append_nil])
      rw [HX.out] at HO
      clear hC
      go_wp2_with fail
      go_ret
      exact ⟨_, rfl, HO.out, hB⟩
end Go.Proofs.Ytfkooohnaodjmaa
