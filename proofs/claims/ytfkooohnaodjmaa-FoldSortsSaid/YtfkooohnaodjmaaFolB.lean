/- Contracts of fold.Fold and fold.Same, and of the reference's Fold. -/
import Derived.Test.YtfkooohnaodjmaaFolA
import Derived.Test.YtfkooohnaodjmaaConv
import Derived.Test.YtfkooohnaodjmaaRows1
import Derived.Laws.MakeOwn
import Derived.OwnWalk
import Derived.Lib.SpaceUEq
import Derived.Lib.TrimUEq
namespace Go.Proofs.Ytfkooohnaodjmaa
open Go.RowKit Go.Sort
open Go.Lib (decode_at decodeN_conts)

theorem info_i32 : (Try.prog.info? 21).map (fun i => (i.zero, i.size, i.bytes)) = some (some (.int .i32 0), 1, 4) := by kernel_rfl
/-- A row of runes that the call owns. -/
def OwnR (w : World) (base : Nat) (v : Value) (R : List Nat) : Prop := w.ownsRow base 21 1 v R.length (R.map rv)
theorem OwnR.below {w w' : World} {base : Nat} {v : Value} {R : List Nat} (h : OwnR w base v R) (b : Below w.heap.size w w') : OwnR w' base v R := own_below h b
theorem OwnR.some_ {w : World} {base : Nat} {v : Value} {R : List Nat} (h : OwnR w base v R) (h0 : 0 < R.length) : ∃ g c, v = .slice (some ⟨g, 0, none⟩) R.length c := by
  obtain ⟨A, c, rfl, _, _, hg⟩ := own_form h
  obtain ⟨g, rfl, _⟩ := hg h0
  exact ⟨g, c, rfl⟩
/-- 'append(out, r)'. -/
theorem append_rune {ops : Array Oper} {rest : List Oper} {o : Oper} {a : Act} {Q : Exit → Act → World → Prop} (w : World) (x0 : Nat) (z : Int) (hz : z = (x0 : Int)) (t : TypeId) (hgd : o.guard = none) (sl x : Operand)
    (ho : o.op = .call { callee := .builtin .append, args := #[sl, x], argTypes := #[91, 91] }) (base : Nat) (v : Value) (S : List Nat) (hs : a.eval sl = v) (hown : OwnR w base v S)
    (hx : a.eval x = .slice (some ⟨w.heap.size, 0, none⟩) 1 1) (hlen : S.length ≤ 1000000000) (hbase : base ≤ w.heap.size)
    (h : ∀ v' w', OwnR w' base v' (S ++ [x0]) → w.grownBy w' v.ownBlock → LiesIn w v v' → wpList Try.prog ops Q rest (a.put o.dst v') w') :
    wpList Try.prog ops Q (o :: rest) a (w.alloc (.cells #[.int .i32 z] t)) := by
  subst hz
  refine append_elem w _ [rv x0] rfl t hgd sl x 91 ho base 21 _ 1 4 Try.underlying91 info_i32 rfl (by decide) v S.length (S.map rv) hs hown rfl (fun u hu => by rw [List.mem_singleton.1 hu]; rfl) hx (by unfold maxLen; omega) (by omega) hbase ?_
  intro v' w' h1 h2 h3
  refine h v' w' ?_ h2 h3
  unfold OwnR
  rw [List.map_append, List.length_append]
  exact h1
theorem bl_foldlF : ∀ (R : List Nat) (b : ByteArray), bl ((R.map fun r : Nat => (r : Int)).foldl (fun r n => r ++ Utf8.encode n) b) = bl b ++ encs R
  | [], b => by simp [encs]
  | r :: R, b => by
    rw [List.map_cons, List.foldl_cons, bl_foldlF R, show ∀ x y : ByteArray, bl (x ++ y) = bl x ++ bl y from fun x y => by unfold bl; simp [ByteArray.data_append], encs_cons, List.append_assoc]
    rfl
theorem runesBytesF (R : List Nat) : runesBytes (R.map fun r : Nat => (r : Int)) = strE R := strE_of (by
  unfold runesBytes
  rw [bl_foldlF]
  rfl)
theorem conv_row {w : World} {b off n c : Nat} {R : List Nat} (hn : R.length = n) (hc : ∀ j r : Nat, R[j]? = some r → w.cell? ⟨b, off + j, none⟩ = some (rv r)) :
    (convert 91 9 (.slice (some ⟨b, off, none⟩) n c)).run Try.prog w = .ok (.string (strE R)) w := by
  have h := run_convert_runes (P := Try.prog) w 91 9 21 ⟨b, off, none⟩ n c (R.map fun r : Nat => (r : Int)) (by simp; omega) Try.underlying91 Try.underlying21 Try.underlying9 (fun j hj => by
    have hj2 : j < R.length := by simpa using hj
    rw [add_lit, hc j _ (List.getElem?_eq_getElem hj2)]
    simp [rv, hj2])
  rw [List.take_of_length_le (by simp; omega), runesBytesF] at h
  exact h

theorem own_itne {w : World} {base size n k p : Nat} {e : TypeId} {v : Value} {xs : List Value} {s : ByteArray} (h : w.ownsRow base e size v n xs) (hi : It w k s p) : some k ≠ v.ownBlock := by
  intro e9
  rcases h.2 with ⟨hv, _⟩ | ⟨g, cap, cur, hv, _, hh, _⟩
  · rw [hv] at e9; cases e9
  · rw [hv] at e9
    have e9 : k = g := by simpa [Value.ownBlock] using e9
    subst e9
    have h2 : w.heap[k]? = some (.stringIter s p) := hi
    rw [h2] at hh
    cases hh
theorem rune_end (s : ByteArray) (k : Nat) (hk : k < s.size) {r d : Nat} (hD : Utf8.decode s k = (r, d)) : k + d ≤ s.size := by
  rw [decode_at] at hD
  obtain ⟨h1, h2, h3, h4⟩ := decodeN_conts (s.size - k) (s.get! k).toNat (s.get! (k + 1)).toNat (s.get! (k + 2)).toNat (s.get! (k + 3)).toNat
  rw [hD] at h1 h2 h3 h4
  dsimp only at h1 h2 h3 h4
  · rcases Nat.lt_or_ge d 2 with h | h
    · omega
    · have := (h1 h).2
      rcases Nat.lt_or_ge d 3 with h | h
      · omega
      · have := (h2 h).2
        rcases Nat.lt_or_ge d 4 with h | h
        · omega
        · have := (h3 h).2
          omega
theorem below_of_grownF {w w' : World} (h : w.grownBy w' none) : Below w.heap.size w w' := ⟨h.os, h.tape, h.output, h.size, fun k hk => h.block k hk (by simp)⟩

set_option maxRecDepth 100000 in
set_option maxHeartbeats 2000000 in
theorem fold_Fold (s : ByteArray) (hs : s.size ≤ 100000000) (w : World) : Calls Try.prog 37 #[.string s] w fun e w' => e = .returned (.string (foldB s)) ∧ Below w.heap.size w w' := by
  obtain ⟨B, hB9⟩ : ∃ B, foldB s = B := ⟨_, rfl⟩
  have HBB := Lib.hid hB9
  rw [hB9]
  clear hB9
  obtain ⟨i0, hi, hz0, hz1, hz2⟩ := info_parts info_i32
  obtain ⟨n, hn⟩ : ∃ n, s.size = n := ⟨_, rfl⟩
  have HN := Lib.hid hn
  have HI := Lib.hid (And.intro hi (And.intro hz0 (And.intro hz1 hz2)))
  have hnb : n ≤ 100000000 := by omega
  clear hi hz0 hz1 hz2
  go_enter Try.func37, Try.ntmps37
  go_upto_region 2 with (at_make; go_must (refine wpList_make_own _ rfl _ _ 91 rfl w.heap.size 21 i0 (.int .i32 0) 1 Try.underlying91 HI.out.1 HI.out.2.1 HI.out.2.2.1 .i64 .i64 _ n rfl rfl (by omega) (by rw [HI.out.2.2.2]; omega) (by unfold maxLen; omega) (Nat.le_refl _) ?_); intro w2 O2 G2)
  have hB0 : Below w.heap.size w w2 := below_of_grownF G2
  clear G2 hn
  go_wp2_with fail
  have O3 : OwnR (w2.iter s 0) w.heap.size (.slice (some ⟨w.heap.size, 0, none⟩) 0 n) [] := World.ownsRow.alloc O2 _
  have hs2 := hB0.size
  go_loopw [3, 5] (fun v3 _ wr => ∃ (k : Nat) (R : List Nat) (g c : Nat), v3 = .slice (some ⟨g, 0, none⟩) R.length c ∧ It wr w2.heap.size s k ∧ w2.heap.size < wr.heap.size ∧ Below w.heap.size w wr ∧ k ≤ s.size ∧ R.length ≤ k ∧ OwnR wr w.heap.size v3 R ∧ (rest s 0).map small = R ++ (rest s k).map small) (fun _ _ wr => s.size - wr.iterPos w2.heap.size)
  case atStart => exact ⟨0, [], w.heap.size, n, rfl, It.new _ _ _, (It.new _ _ _).lt, below_iter hB0 hB0.size _ _, Nat.zero_le _, Nat.zero_le _, O3, rfl⟩
  case round =>
    clear O3 O2
    obtain ⟨k, R, g, c, rfl, BI, hlt, hB, hks, hRk, hO, hdw⟩ := hrel
    have hpos := BI.pos
    have HDW := Lib.hid hdw
    have HO := Lib.hid hO
    clear hdw hO
    by_cases hk : k < s.size
    · obtain ⟨r, d, hD, hd1, hr, _⟩ := decode_some s k hk
      have hnx : ∀ ty, (Instr.next (.pointer (some ⟨w2.heap.size, 0, none⟩)) true ty).run Try.prog wr = .ok (.tuple #[.bool true, .int .i64 k, .int .i32 r]) (wr.iterAt w2.heap.size s (k + d)) := by
        intro ty
        rw [Lib.run_next_any_at wr _ s k ty BI hk, hD]
      have BI2 := BI.at_ (k + d)
      have hB2 := Lib.below_iterAt hB (k := w2.heap.size) hs2 s (k + d)
      have hlt2 := BI2.lt
      have hdk : k + d ≤ s.size := rune_end s k hk hD
      have HPOS := Lib.hid hpos
      have HRS := Lib.hid (rest_cons s k hk hD hd1)
      have O4 : OwnR (wr.iterAt w2.heap.size s (k + d)) w.heap.size (.slice (some ⟨g, 0, none⟩) R.length c) R := own_iterAt HO.out BI (k + d)
      have HO4 := Lib.hid O4
      have hRl : R.length ≤ 1000000000 := by have := HN.out; omega
      have hbs := hB2.size
      have HNE := Lib.hid (own_itne O4 BI2)
      have HLO := Lib.hid (fun q hq => (World.ownsRow.lt O4 q hq).1)
      clear hD BI hB hlt hpos HO O4
      generalize wr.iterAt w2.heap.size s (k + d) = w3 at *
      have HX : Hid ((rest s 0).map small = (R ++ [small r]) ++ (rest s (k + d)).map small) := Lib.hid (by rw [HDW.out, HRS.out]; simp)
      have fin : ∀ v' w', OwnR w' w.heap.size v' (R ++ [small r]) → w3.grownBy w' (Value.slice (some ⟨g, 0, none⟩) R.length c).ownBlock → ∃ (k' : Nat) (R' : List Nat) (g' c' : Nat), v' = .slice (some ⟨g', 0, none⟩) R'.length c' ∧ It w' w2.heap.size s k' ∧ w2.heap.size < w'.heap.size ∧ Below w.heap.size w w' ∧ k' ≤ s.size ∧ R'.length ≤ k' ∧ OwnR w' w.heap.size v' R' ∧ (rest s 0).map small = R' ++ (rest s k').map small := fun v' w' O G => by
        obtain ⟨g', c', e'⟩ := OwnR.some_ O (by simp)
        have hI := BI2.grown G HNE.out
        exact ⟨k + d, R ++ [small r], g', c', e', hI, hI.lt, Below.grown hB2 G hbs HLO.out, hdk, by rw [List.length_append]; show R.length + 1 ≤ _; omega, O, HX.out⟩
      have HF := Lib.hid fin
      have HM : Hid (∀ v' w', OwnR w' w.heap.size v' (R ++ [small r]) → w3.grownBy w' (Value.slice (some ⟨g, 0, none⟩) R.length c).ownBlock → s.size - w'.iterPos w2.heap.size < s.size - wr.iterPos w2.heap.size) := Lib.hid (fun v' w' O G => by
        rw [(BI2.grown G HNE.out).pos, HPOS.out]
        omega)
      clear fin BI2 hB2 hlt2 HX
      rcases (show r < 65 ∨ (65 ≤ r ∧ r ≤ 90) ∨ 90 < r by omega) with h | h | h
      · have hz : Hid ((r : Int) = (small r : Nat)) := Lib.hid (by unfold small; rw [if_neg (by omega)])
        go_wp2_with (at_builtin; go_must (refine append_rune w3 (small r) _ hz.out _ rfl _ _ rfl w.heap.size _ R rfl HO4.out rfl hRl hbs ?_); intro v7 w7 O7 G7 _)
        go_roundw
        case rel => exact HF.out v7 w7 O7 G7
        case measure => exact HM.out v7 w7 O7 G7
      · have hz : Hid ((r : Int) + 32 = (small r : Nat)) := Lib.hid (by unfold small; rw [if_pos h]; rfl)
        go_wp2_with (at_builtin; go_must (refine append_rune w3 (small r) _ hz.out _ rfl _ _ rfl w.heap.size _ R rfl HO4.out rfl hRl hbs ?_); intro v7 w7 O7 G7 _)
        go_roundw
        case rel => exact HF.out v7 w7 O7 G7
        case measure => exact HM.out v7 w7 O7 G7
      · have hz : Hid ((r : Int) = (small r : Nat)) := Lib.hid (by unfold small; rw [if_neg (by omega)])
        go_wp2_with (at_builtin; go_must (refine append_rune w3 (small r) _ hz.out _ rfl _ _ rfl w.heap.size _ R rfl HO4.out rfl hRl hbs ?_); intro v7 w7 O7 G7 _)
        go_roundw
        case rel => exact HF.out v7 w7 O7 G7
        case measure => exact HM.out v7 w7 O7 G7
    · have hnx : ∀ ty, (Instr.next (.pointer (some ⟨w2.heap.size, 0, none⟩)) true ty).run Try.prog wr = .ok (.tuple #[.bool false]) wr := fun ty => Lib.run_next_end_at wr _ s k ty BI (by omega)
      have HX : Hid (strE R = B) := Lib.hid (by
        rw [← HBB.out]
        unfold foldB
        rw [HDW.out, rest_end s k (by omega)]
        simp)
      have hcv := conv_row (w := wr) (b := g) (off := 0) (n := R.length) (c := c) (R := R) rfl (fun j r hj => by
        have := World.ownsRow.cells HO.out (g := g) rfl j (rv r) (by simp [hj])
        rw [add_lit] at this
        exact this)
      rw [HX.out] at hcv
      go_wp2_with fail
      go_ret
      exact ⟨rfl, hB⟩

theorem bl_appF (x y : ByteArray) : bl (x ++ y) = bl x ++ bl y := by unfold bl; simp [ByteArray.data_append]
theorem encs_lenF : ∀ R : List Nat, (encs R).length ≤ 4 * R.length
  | [] => by simp [encs]
  | r :: R => by
    rw [encs_cons, List.length_append, List.length_cons]
    have := enc_length r
    have := encs_lenF R
    omega
theorem foldB_size (s : ByteArray) : (foldB s).size ≤ 4 * s.size := by
  have h1 := encs_lenF ((rest s 0).map small)
  have h2 := rest_length s 0
  rw [← bl_length]
  unfold foldB
  rw [bl_strE]
  rw [List.length_map] at h1
  omega
set_option maxRecDepth 100000 in
set_option maxHeartbeats 2000000 in
theorem ref39_Fold (s : ByteArray) (hs : s.size ≤ 100000000) (w : World) : Calls Try.prog 61 #[.string s] w fun e w' => e = .returned (.string (foldB s)) ∧ Below w.heap.size w w' := by
  obtain ⟨B, hB9⟩ : ∃ B, foldB s = B := ⟨_, rfl⟩
  have HBB := Lib.hid hB9
  rw [hB9]
  clear hB9
  have hcv := conv_runes s (by omega)
  have HCC := Lib.hid (rnW_cell s w)
  have hB0 := rnW_below s w
  have hsz := rnW_size s w
  have hRl := rest_length s 0
  obtain ⟨R, hR⟩ : ∃ R, rest s 0 = R := ⟨_, rfl⟩
  obtain ⟨n, hn⟩ : ∃ n, R.length = n := ⟨_, rfl⟩
  rw [hR] at HCC hcv hRl
  rw [hn] at hcv hRl
  have HR := Lib.hid hR
  have HN := Lib.hid hn
  clear hR hn
  go_enter Try.func61, Try.ntmps61
  go_wp2_with fail
  generalize rnC s w = cz at *
  generalize rnW s w = W at *
  clear hcv
  go_loopw [4, 5] (fun v4 v5 wr => ∃ (k : Nat) (x : ByteArray), v4 = .string x ∧ v5 = .int .i64 k ∧ k ≤ n ∧ bl x = encs ((R.take k).map small) ∧ x.size ≤ 4 * k ∧ Below W.heap.size W wr) (fun _ v5 _ => n - (RowKit.intOf v5).toNat)
  case atStart => exact ⟨0, ⟨#[]⟩, rfl, rfl, Nat.zero_le _, rfl, Nat.le_refl _, Below.refl _ _⟩
  case round =>
    obtain ⟨k, x, rfl, rfl, hk, hx, hxs, hB⟩ := hrel
    have HX := Lib.hid hx
    clear hx
    by_cases hkn : k < n
    · have hkT : k < R.length := by have := HN.out; omega
      have c0 : wr.cell? ⟨w.heap.size, k, none⟩ = some (.int .i32 (R[k] : Nat)) := (hB.cell (p := ⟨w.heap.size, k, none⟩) (show w.heap.size < W.heap.size by omega)).trans (HCC.out k R[k] (List.getElem?_eq_getElem hkT))
      have HST : Hid ((R.take (k + 1)).map small = (R.take k).map small ++ [small R[k]]) := Lib.hid (by rw [List.take_succ_eq_append_getElem hkT, List.map_append]; rfl)
      obtain ⟨r, hr⟩ : ∃ r, R[k]'hkT = r := ⟨_, rfl⟩
      rw [hr] at c0 HST
      obtain ⟨m, hm⟩ : ∃ m, small r = m := ⟨_, rfl⟩
      have CS := ref39_small r wr
      rw [hm] at HST CS
      have CS := Lib.hid CS
      have hen := enc_length m
      obtain ⟨E, hE⟩ : ∃ E, Utf8.encode (m : Int) = E := ⟨_, rfl⟩
      have heE : enc m = bl E := by unfold enc; rw [hE]
      rw [heE, bl_length] at hen
      have HEE := Lib.hid heE
      have HE := Lib.hid hE
      have HNX : Hid (bl (x ++ E) = encs ((R.take (k + 1)).map small)) := Lib.hid (by rw [HST.out, encs_append, ← HX.out, bl_appF, ← HEE.out]; simp [encs])
      have hzs : (x ++ E).size = x.size + E.size := ByteArray.size_append
      clear hr hm heE
      go_wp2_with fail
      refine CS.out.mono ?_
      rintro e w3 ⟨rfl, rfl⟩
      clear CS c0
      go_wp2_with fail
      go_roundw
      case rel => exact ⟨k + 1, x ++ E, by first | rfl | (rw [HE.out]), by go_num, hkn, HNX.out, by omega, hB⟩
      case measure => simp [RowKit.intOf]; omega
    · have HF : Hid (x = B) := Lib.hid (by
        rw [← HBB.out]
        unfold foldB
        refine strE_of ?_
        rw [HX.out, HR.out, List.take_of_length_le (by have := HN.out; omega)])
      rw [HF.out]
      go_wp2_with fail
      go_ret
      exact ⟨rfl, hB0.trans (hB.mono (by omega))⟩
def sameF (a b : ByteArray) : Bool := (foldB a).toList == (foldB b).toList
set_option maxRecDepth 100000 in
theorem fold_Same (a b : ByteArray) (ha : a.size ≤ 100000000) (hb : b.size ≤ 100000000) (w : World) : Calls Try.prog 46 #[.string a, .string b] w fun e w' => e = .returned (.bool (sameF a b)) ∧ Below w.heap.size w w' := by
  have C1 := Lib.hid (fold_Fold a ha w)
  have C2 := Lib.hid (fold_Fold b hb)
  obtain ⟨q, hq⟩ : ∃ q, sameF a b = q := ⟨_, rfl⟩
  rw [hq]
  unfold sameF at hq
  obtain ⟨x, hx⟩ : ∃ x, foldB a = x := ⟨_, rfl⟩
  obtain ⟨y, hy⟩ : ∃ y, foldB b = y := ⟨_, rfl⟩
  rw [hx] at C1 hq
  rw [hy] at C2 hq
  clear hx hy
  go_enter Try.func46, Try.ntmps46
  go_wp2_with fail
  refine C1.out.mono ?_
  rintro e w1 ⟨rfl, b1⟩
  go_wp2_with fail
  refine (C2.out w1).mono ?_
  rintro e w2 ⟨rfl, b2⟩
  have hB := b1.trans (b2.mono b1.size)
  cases q
  all_goals
    go_wp2_with fail
    go_ret
    exact ⟨rfl, hB⟩
end Go.Proofs.Ytfkooohnaodjmaa
