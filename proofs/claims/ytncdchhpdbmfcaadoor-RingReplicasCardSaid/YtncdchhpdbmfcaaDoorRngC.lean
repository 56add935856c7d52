/- Contract of ring.New. -/
import Derived.Test.YtncdchhpdbmfcaaDoorRngB
import Derived.Test.YtncdchhpdbmfcaaDoorMixN
import Derived.Test.YtncdchhpdbmfcaaDoorRnB
import Derived.Test.YtncdchhpdbmfcaaDoorTxt
import Derived.LoopN
namespace Go.Proofs.YtncdchhpdbmfcaaDoor
open Go.RowKit Go.Sort

def leT (a b : ByteArray) : Bool := decide (cmpT a b ≤ 0)
def ltT (a b : ByteArray) : Bool := decide (cmpT a b < 0)
def neT (a b : ByteArray) : Bool := decide (cmpT a b ≠ 0)
theorem le_T (a b : ByteArray) : (Op.bytesLess a.toList b.toList || a.toList == b.toList) = leT a b := by
  unfold leT
  rcases cmpT_cases a b with ⟨h, e⟩ | ⟨h, h2, e⟩ | ⟨h, h2, e⟩ <;> rw [h, e]
  · rfl
  · rw [h2]; rfl
  · rw [h2]; rfl
theorem lt_T (a b : ByteArray) : Op.bytesLess a.toList b.toList = ltT a b := by
  unfold ltT
  rcases cmpT_cases a b with ⟨h, e⟩ | ⟨h, h2, e⟩ | ⟨h, h2, e⟩ <;> rw [h, e] <;> rfl
theorem not_ltT (a b : ByteArray) : (!ltT a b) = leT b a := by
  unfold ltT leT
  have := cmp_T.anti a b
  by_cases h : cmpT a b < 0
  · rw [decide_eq_true h, decide_eq_false (by omega)]; rfl
  · rw [decide_eq_false h, decide_eq_true (by omega)]; rfl
theorem not_leT (a b : ByteArray) : (!leT a b) = ltT b a := by rw [← not_ltT, Bool.not_not]
theorem lo_T (a b : ByteArray) : (ltT a b || a.toList == b.toList) = leT a b := by rw [← lt_T, le_T]
attribute [local go_sem] lt_T lo_T not_ltT not_leT

/-- May a text stand at this place of a ring's starts? -/
def GoodK (K : List ByteArray) (j : Nat) : Prop := ∃ s, K[j]? = some s ∧ keyB s = true ∧ ∀ t, 0 < j → K[j - 1]? = some t → ltT t s = true
/-- May there be such a ring? -/
def RightR (nodes copies : Int) (K : List ByteArray) : Prop := 1 ≤ nodes ∧ nodes ≤ 5 ∧ 1 ≤ copies ∧ copies ≤ nodes ∧ K.length ≤ 3 ∧ ∀ j, j < K.length → GoodK K j
def nodeB : ByteArray := ⟨#[110, 111, 100, 101]⟩
/-- The k-th place: of node k / 4. -/
def plc (k : Nat) : Pl := (hU (rest nodeB 0) (k + 1), k / 4)
/-- The places of so many nodes. -/
def plcs (n : Nat) : List Pl := (List.range n).map plc
theorem plcs_succ (n : Nat) : plcs (n + 1) = plcs n ++ [plc n] := by unfold plcs; rw [List.range_succ, List.map_append]; rfl
theorem plcs_len (n : Nat) : (plcs n).length = n := by unfold plcs; simp
/-- A ring in memory. -/
structure RingAt (w : World) (g : Nat) (S : List ByteArray) (nodes copies : Int) (P : List Pl) : Prop where
  ring : ∃ (A B : Option Addr) (c d : Nat), Blk w g 56 #[.slice A S.length c, .int .i64 nodes, .int .i64 copies, .slice B P.length d] ∧ Reads w w.heap.size 1 A S.length (S.map Value.string) ∧ RdU w B P
theorem RingAt.below {w w' : World} {g : Nat} {S : List ByteArray} {nodes copies : Int} {P : List Pl} (h : RingAt w g S nodes copies P) (b : Below w.heap.size w w') : RingAt w' g S nodes copies P := by
  obtain ⟨A, B, c, d, h1, h2, h3⟩ := h.ring
  exact ⟨A, B, c, d, h1.below b h1.lt, (h2.below b).more b.size, h3.below b⟩
def NewE (nodes copies : Int) (K : List ByteArray) (w : World) (e : Ending) (w' : World) : Prop :=
  (RightR nodes copies K ∧ ∃ (N : Nat) (g : Nat), nodes = N ∧ e = .returned (.tuple #[.pointer (some ⟨g, 0, none⟩), .int .i64 0]) ∧ RingAt w' g (⟨#[]⟩ :: K) nodes copies (sortU (plcs (N * 4))) ∧ Below w.heap.size w w') ∨
  (¬ RightR nodes copies K ∧ e = .returned (.tuple #[.pointer none, .int .i64 200]) ∧ Below w.heap.size w w')
theorem own_litX (w : World) (base : Nat) (hb : base ≤ w.heap.size) (s : ByteArray) : OwnX (w.alloc (.cells #[.string s] 9)) base (.slice (some ⟨w.heap.size, 0, none⟩) 1 1) [s] :=
  ⟨rfl, .inr ⟨w.heap.size, 1, #[.string s], rfl, hb, heap_alloc_new w _, Nat.le_refl _, by decide, rfl, rfl⟩⟩
theorem txt_oneR (l : List ByteArray) : ∀ u ∈ l.map Value.string, u.oneCell' = true := fun u hu => by
  obtain ⟨s, _, h⟩ := List.mem_map.1 hu
  rw [← h]; rfl
/-- append of a row of texts. -/
theorem append_txts {ops : Array Oper} {rest : List Oper} {o : Oper} {a : Act} {Q : Exit → Act → World → Prop} (w : World) (hgd : o.guard = none) (sl x : Operand)
    (ho : o.op = .call { callee := .builtin .append, args := #[sl, x], argTypes := #[22, 22] }) (base : Nat) (v : Value) (S : List ByteArray) (hs : a.eval sl = v) (hown : OwnX w base v S)
    (A : Option Addr) (n c : Nat) (l : List ByteArray) (hx : a.eval x = .slice A n c) (hr : Reads w w.heap.size 1 A n (l.map Value.string)) (hlen : S.length ≤ 1000000) (hlen2 : n ≤ 1000000) (hbase : base ≤ w.heap.size)
    (h : ∀ v' w', OwnX w' base v' (S ++ l) → w.grownBy w' v.ownBlock → wpList Tryd.prog ops Q rest (a.put o.dst v') w') :
    wpList Tryd.prog ops Q (o :: rest) a w := by
  obtain ⟨i0, hi, hz0, hz1, hz2⟩ := info_parts info_stringX
  have hn : l.length = n := by have := hr.1; simpa using this
  refine wpList_append_any w hgd sl x 22 ho base 9 i0 (.string ⟨#[]⟩) 1 16 Tryd.underlying22 hi hz0 hz1 hz2 rfl (by decide) v S.length (S.map Value.string) hs hown _ A n c (l.map Value.string) hx hr (txt_oneR l) (by unfold maxLen; omega) (by omega) hbase ?_
  intro v' w' h1 h2 _
  refine h v' w' ?_ h2
  unfold OwnX
  rw [List.map_append, List.length_append, hn]
  exact h1

set_option maxRecDepth 100000 in
set_option maxHeartbeats 8000000 in
theorem ring_New (nodes copies : Int) (A : Option Addr) (n c : Nat) (K : List ByteArray) (w : World) (hT : Tabs w) (hr : Reads w w.heap.size 1 A n (K.map Value.string)) (hn : n ≤ 9223372036854775807) (hz : ∀ s ∈ K, s.size ≤ maxLen)
    (h1 : -9223372036854775808 ≤ nodes) (h2 : nodes ≤ 9223372036854775807) (h3 : -9223372036854775808 ≤ copies) (h4 : copies ≤ 9223372036854775807) :
    Calls Tryd.prog 8 #[.int .i64 nodes, .int .i64 copies, .slice A n c] w (NewE nodes copies K w) := by
  have hN : K.length = n := by have := hr.1; simpa using this
  have HR := Lib.hid hr
  have HN := Lib.hid hN
  have HZ := Lib.hid hz
  clear hr hN hz
  by_cases hc : 1 ≤ nodes ∧ nodes ≤ 5 ∧ 1 ≤ copies ∧ copies ≤ nodes ∧ n ≤ 3
  · obtain ⟨cc1, cc2, cc3, cc4, cc5⟩ := hc
    go_enter Tryd.func8, Tryd.ntmps8
    go_wp2_with fail
    go_loopw [8, 9, 35] (fun _ _ v35 wr => ∃ i : Nat, v35 = .int .i64 i ∧ i ≤ n ∧ (∀ j, j < i → GoodK K j) ∧ Below w.heap.size w wr) (fun _ _ v35 _ => n - (intOf v35).toNat)
    case atStart => exact ⟨0, rfl, Nat.zero_le _, fun j h => by omega, Below.refl _ _⟩
    case round =>
      obtain ⟨i, rfl, hi, hG, hB⟩ := hrel
      have HG := Lib.hid hG
      clear hG
      by_cases hin : i < n
      · have hiK : i < K.length := by have := HN.out; omega
        obtain ⟨b, off, rfl, hb, hall⟩ := Reads.form HR.out (by omega)
        obtain ⟨s, hs⟩ : ∃ s, K[i]'hiK = s := ⟨_, rfl⟩
        have hget : K[i]? = some s := by rw [List.getElem?_eq_getElem hiK, hs]
        have e0 := hb_cell hB (hall i (.string s) (by rw [List.getElem?_map, hget]; rfl))
        have hsz : s.size ≤ maxLen := HZ.out s (by rw [← hs]; exact List.getElem_mem hiK)
        have HC := Lib.hid (runes_Key s hsz wr (hT.below hB))
        obtain ⟨k, hk⟩ : ∃ k, keyB s = k := ⟨_, rfl⟩
        rw [hk] at HC
        have HKK := Lib.hid hk
        have HGET := Lib.hid hget
        clear hs hget hk hsz
        cases k with
        | false =>
          have HNO : Hid (¬ RightR nodes copies K) := Lib.hid (fun h => by
            obtain ⟨s', h5, h6, _⟩ := h.2.2.2.2.2 i hiK
            rw [HGET.out] at h5
            injection h5 with h5
            rw [← h5, HKK.out] at h6
            cases h6)
          clear hall
          go_wp2_with fail
          refine HC.out.mono ?_
          rintro e w1 ⟨rfl, b1⟩
          go_wp2_with fail
          go_ret2
          exact .inr ⟨HNO.out, rfl, hB.trans (b1.mono hB.size)⟩
        | true =>
          rcases Nat.eq_zero_or_pos i with rfl | hi0
          · clear hall
            rw [Nat.add_zero] at e0
            go_wp2_with fail
            refine HC.out.mono ?_
            rintro e w1 ⟨rfl, b1⟩
            go_wp2_with fail
            go_roundw
            case rel => exact ⟨1, by go_num, by omega, fun j hj => by
              obtain rfl : j = 0 := by omega
              exact ⟨s, HGET.out, HKK.out, fun t h _ => by omega⟩, hB.trans (b1.mono hB.size)⟩
            case measure => simp [intOf]; omega
          · obtain ⟨m, rfl⟩ : ∃ m, i = m + 1 := ⟨i - 1, by omega⟩
            have hmK : m < K.length := by omega
            obtain ⟨t, ht⟩ : ∃ t, K[m]'hmK = t := ⟨_, rfl⟩
            have hget2 : K[m]? = some t := by rw [List.getElem?_eq_getElem hmK, ht]
            have e1 := hb_cell hB (hall m (.string t) (by rw [List.getElem?_map, hget2]; rfl))
            have HGET2 := Lib.hid hget2
            have hd1 : ((m + 1 : Nat) : Int) - 1 = (m : Int) := by omega
            clear hall ht hget2
            cases hq : ltT t s with
            | false =>
              have hq2 : leT s t = true := by rw [← not_ltT, hq]; rfl
              have HNO : Hid (¬ RightR nodes copies K) := Lib.hid (fun h => by
                obtain ⟨s', h5, h6, h7⟩ := h.2.2.2.2.2 (m + 1) hiK
                rw [HGET.out] at h5
                injection h5 with h5
                have h8 := h7 t (by omega) HGET2.out
                rw [← h5, hq] at h8
                cases h8)
              go_wp2_with fail
              refine HC.out.mono ?_
              rintro e w1 ⟨rfl, b1⟩
              replace e0 := hb_cell b1 e0
              replace e1 := hb_cell b1 e1
              go_wp2_with fail
              go_ret2
              exact .inr ⟨HNO.out, rfl, hB.trans (b1.mono hB.size)⟩
            | true =>
              have hq2 : leT s t = false := by rw [← not_ltT, hq]; rfl
              have HQ := Lib.hid hq
              go_wp2_with fail
              refine HC.out.mono ?_
              rintro e w1 ⟨rfl, b1⟩
              replace e0 := hb_cell b1 e0
              replace e1 := hb_cell b1 e1
              go_wp2_with fail
              go_roundw
              case rel => exact ⟨m + 2, by go_num, by omega, fun j hj => by
                rcases Nat.lt_or_ge j (m + 1) with h | h
                · exact HG.out j h
                · obtain rfl : j = m + 1 := by omega
                  exact ⟨s, HGET.out, HKK.out, fun t' _ h => by
                    rw [show m + 1 - 1 = m from rfl, HGET2.out] at h
                    injection h with h
                    rw [← h]
                    exact HQ.out⟩, hB.trans (b1.mono hB.size)⟩
              case measure => simp [intOf]; omega
      · have hRight : RightR nodes copies K := ⟨cc1, cc2, cc3, cc4, by rw [HN.out]; exact cc5, fun j hj => HG.out j (by have := HN.out; omega)⟩
        have HRI := Lib.hid hRight
        obtain ⟨N, hN⟩ : ∃ N : Nat, nodes = N := ⟨nodes.toNat, by omega⟩
        have hN5 : N ≤ 5 := by omega
        subst hN
        have hsB := hB.size
        have HRW := Lib.hid ((HR.out.below hB).more hsB)
        have hOL := own_litX wr wr.heap.size (Nat.le_refl _) ⟨#[]⟩
        have bL := (Below.refl wr.heap.size wr).alloc (Nat.le_refl _) (.cells #[.string ⟨#[]⟩] 9)
        have HRL := Lib.hid ((HRW.out.below bL).more bL.size)
        clear hRight
        go_upto_region 10 with (at_builtin; go_must (refine append_txts _ rfl _ _ rfl wr.heap.size _ [⟨#[]⟩] rfl hOL A n c K rfl HRL.out (by simp) (by omega) bL.size ?_); intro v1 w1 O1 G1; obtain ⟨N1, hN1⟩ : ∃ z, ([(⟨#[]⟩ : ByteArray)] ++ K).length = z := ⟨_, rfl⟩; obtain ⟨A1, c1, hv1, _, _, _⟩ := O1.form; rw [hN1] at hv1; subst hv1; have HN1 := Lib.hid hN1; have HO1 := Lib.hid O1; have HB1 := Lib.hid (Below.grown bL G1 bL.size (fun q hq => (hOL.lt q hq).1)))
        have hb1 := HB1.out
        have hRS : Reads w1 w1.heap.size 1 A1 N1 (((⟨#[]⟩ : ByteArray) :: K).map Value.string) := by
          have h := HO1.out
          unfold OwnX at h
          rw [HN1.out] at h
          exact Reads.of_own h
        have HRS := Lib.hid hRS
        have hBw1 := hB.trans (hb1.mono hsB)
        obtain ⟨W, hW⟩ : ∃ W, w1.alloc (.cells #[.slice A1 N1 c1, .int .i64 (N : Int), .int .i64 copies, .slice none 0 0] 56) = W := ⟨_, rfl⟩
        have BR : Blk W w1.heap.size 56 #[.slice A1 N1 c1, .int .i64 (N : Int), .int .i64 copies, .slice none 0 0] := by rw [← hW]; exact Blk.new _ _ _
        have OU : OwnU 60 W (w1.heap.size + 1) (.slice none 0 0) (plcs (0 * 4)) := OwnU.nil_ _ _ _
        have bW : Below w1.heap.size w1 W := by rw [← hW]; exact (Below.refl _ _).alloc (Nat.le_refl _) _
        rw [hW]
        clear hW hOL bL G1 O1 hRS HRL
        go_wp2_with fail
        go_loopw [11, 12, 65, 68] (fun _ _ v65 _ wr => ∃ (m : Nat) (V : Value), v65 = .int .i64 m ∧ m ≤ N ∧ Blk wr w1.heap.size 56 #[.slice A1 N1 c1, .int .i64 (N : Int), .int .i64 copies, V] ∧ OwnU 60 wr (w1.heap.size + 1) V (plcs (m * 4)) ∧ Below w1.heap.size w1 wr) (fun _ _ v65 _ _ => N - (intOf v65).toNat)
        case atStart => exact ⟨0, _, rfl, Nat.zero_le _, BR, OU, bW⟩
        case round =>
          clear BR OU bW
          obtain ⟨m, V, rfl, hm, BR, OU, bW⟩ := hrel
          by_cases hmN : m < N
          · have OU0 : OwnU 60 wr (w1.heap.size + 1) V (plcs (m * 4 + 0)) := OU
            have HOU := Lib.hid OU0
            clear OU OU0
            go_wp2_with fail
            go_loopw [12, 68] (fun _ v68 wr => ∃ (i : Nat) (V : Value), v68 = .int .i64 i ∧ i ≤ 4 ∧ Blk wr w1.heap.size 56 #[.slice A1 N1 c1, .int .i64 (N : Int), .int .i64 copies, V] ∧ OwnU 60 wr (w1.heap.size + 1) V (plcs (m * 4 + i)) ∧ Below w1.heap.size w1 wr) (fun _ v68 _ => 4 - (intOf v68).toNat)
            case atStart => exact ⟨0, V, rfl, Nat.zero_le _, BR, HOU.out, bW⟩
            case round =>
              clear BR HOU bW
              obtain ⟨i, V, rfl, hi, BR, OU, bW⟩ := hrel
              by_cases hi4 : i < 4
              · have hsW := BR.lt
                have HOU := Lib.hid (OU.below ((Below.refl wr.heap.size wr).drew))
                have hne : some w1.heap.size ≠ V.ownBlock := fun h => by have := (OU.lt _ h.symm).1; omega
                have q0 : ∀ p : Kept (fun k => some k ≠ V.ownBlock) wr.drew, p.v.cell? ⟨w1.heap.size, 3, none⟩ = some V := fun p => p.h.cell hne (BR.drew.cell 3)
                have hpl : plc (m * 4 + i) = (hU (rest ⟨#[110, 111, 100, 101]⟩ 0) (m * 4 + i + 1), m) := by
                  unfold plc nodeB
                  rw [show (m * 4 + i) / 4 = m by omega]
                have hsum := ring_sum ⟨#[110, 111, 100, 101]⟩ (m * 4 + i + 1) (by omega) wr.drew
                obtain ⟨hv, hhv⟩ : ∃ hv, hU (rest ⟨#[110, 111, 100, 101]⟩ 0) (m * 4 + i + 1) = hv := ⟨_, rfl⟩
                rw [hhv] at hpl hsum
                have hpx : (m : Int) * 4 + (i : Int) + 1 = ((m * 4 + i + 1 : Nat) : Int) := by omega
                have HPX := Lib.hid hpx
                have HPL := Lib.hid hpl
                have HSUM := Lib.hid hsum
                have BRd := BR.drew
                have bWd := below_drewN bW 1
                have hlen : (plcs (m * 4 + i)).length ≤ 1000000000 := by rw [plcs_len]; omega
                clear hhv hpl hsum hpx
                go_upto_region 16 with fail
                refine NC.wp_region_mixTk (M := []) (fun k => some k ≠ V.ownBlock) 15 [0, 1, 2, 3, 4, 5, 6, 7, 8, 9, 11, 10, 12, 13, 14] (by kernel_rfl) (by kernel_rfl) ?_
                iterate 11 (refine NC.mix_calmDk rfl rfl ?_; go_big_quiet_step (fail); refine wpQuiet_nil ?_)
                clear q0
                refine NC.mix_loudDk rfl (by kernel_rfl) rfl ?_
                intro K1 hK1
                have HK := Lib.hid hK1
                clear hK1
                go_wp2_with fail
                rw [HPX.out]
                refine HSUM.out.mono ?_
                rintro e w2 ⟨rfl, b2⟩
                replace HOU := Lib.hid (HOU.out.below b2)
                replace BRd := BRd.below b2 BRd.lt
                replace bWd := bWd.trans (b2.mono bWd.size)
                go_wp2_with fail
                refine HK.out _ _ (Stand.of_below b2) ?_
                clear HK b2
                iterate 1 (refine NC.mix_calmDk rfl rfl ?_; go_big_quiet_step (fail); refine wpQuiet_nil ?_)
                refine NC.mix_loudDk rfl (by kernel_rfl) rfl ?_
                intro K1 hK1
                have HK := Lib.hid hK1
                clear hK1
                go_wp2_with fail
                refine HK.out _ _ ((Stand.refl _ _).alloc _) ?_
                clear HK
                refine NC.mix_loudDk rfl (by kernel_rfl) rfl ?_
                intro K1 hK1
                have HK := Lib.hid hK1
                clear hK1
                have hs2 : w1.heap.size + 1 ≤ w2.heap.size := BRd.lt
                obtain ⟨W2, hW2⟩ : ∃ W2, w2.alloc (.cells #[.int .u32 (hv : Int), .int .i64 (m : Int)] 60) = W2 := ⟨_, rfl⟩
                have HGN : Hid (∀ (w' : World) (G : W2.grownBy w' V.ownBlock), Blk w' w1.heap.size 56 #[.slice A1 N1 c1, .int .i64 (N : Int), .int .i64 copies, V] ∧ Below w1.heap.size w1 w') := Lib.hid (fun w' G => by
                  rw [← hW2] at G
                  exact ⟨(BRd.alloc _).grown G hne, Below.grown (bWd.alloc bWd.size _) G (by rw [World.size_alloc]; exact Nat.le_succ_of_le bWd.size) (fun q hq => by have := (HOU.out.lt q hq).1; omega)⟩)
                have HW2 := Lib.hid hW2
                clear hW2
                go_wp2_with (at_builtin; go_must (refine append_place_a w2 (hv, m) _ rfl _ rfl _ _ rfl (w1.heap.size + 1) _ (plcs (m * 4 + i)) rfl HOU.out rfl hlen hs2 ?_); intro v7 w7 O7 G7; obtain ⟨N7, hN7⟩ : ∃ z, (plcs (m * 4 + i) ++ [(hv, m)]).length = z := ⟨_, rfl⟩; obtain ⟨A7, c7, hv7, _, _, _⟩ := O7.form; rw [hN7] at hv7; subst hv7; have HO7 := Lib.hid O7; have HST := Lib.hid (Stand.of_grown (S := fun k => some k ≠ V.ownBlock) G7 (fun k hk h => h hk.symm)); have HG7 := Lib.hid (HGN.out w7 (HW2.out ▸ G7)))
                refine HK.out _ _ HST.out ?_
                clear HK
                refine NC.mix_endDk ?_
                have f3 := HG7.out.1.frozen 3
                have q3 := HG7.out.1.cell 3
                go_wp2_with fail
                go_roundw
                case rel => exact ⟨i + 1, _, by go_num, hi4, HG7.out.1.set_ 3 _, (by rw [show m * 4 + (i + 1) = (m * 4 + i) + 1 from rfl, plcs_succ, HPL.out]; exact own_set1 HO7.out (Nat.lt_succ_self _) 3 _), below_set HG7.out.2 (Nat.le_refl _) _ _⟩
                case measure => simp [intOf]; omega
              · have hi5 : i = 4 := by omega
                subst hi5
                have HOU := Lib.hid OU
                clear OU
                go_wp2_with fail
                go_roundw
                case rel => exact ⟨m + 1, V, by go_num, hmN, BR, (by rw [show (m + 1) * 4 = m * 4 + 4 by omega]; exact HOU.out), bW⟩
                case measure => simp [intOf]; omega
          · have hmN' : m = N := by omega
            subst hmN'
            have HOU := Lib.hid OU
            have hlt := BR.lt
            have q3 := BR.cell 3
            clear OU
            go_wp2_with fail
            refine (places_Sort V (plcs (m * 4)) wr (w1.heap.size + 1) (w1.heap.size + 1) HOU.out (Nat.le_refl _) hlt (by rw [plcs_len]; omega)).mono ?_
            rintro e w5 ⟨rfl, A5, c5, hV, -, -, r5, b5⟩
            have BR5 := BR.below b5 (Nat.lt_succ_self _)
            have hb5 := bW.trans (b5.mono (Nat.le_succ _))
            have HR5 := Lib.hid r5
            clear r5 q3
            go_wp2_with fail
            go_ret2
            refine .inl ⟨HRI.out, m, w1.heap.size, rfl, rfl, ⟨A1, A5, c1, c5, ?_, ?_, HR5.out⟩, hBw1.trans (hb5.mono hBw1.size)⟩
            · have e1 : ((⟨#[]⟩ : ByteArray) :: K).length = N1 := HN1.out
              have e2 : (sortU (plcs (m * 4))).length = (plcs (m * 4)).length := (sortU_perm _).length_eq
              rw [e1, e2, ← hV]
              exact BR5
            · have e1 : ((⟨#[]⟩ : ByteArray) :: K).length = N1 := HN1.out
              rw [e1]
              exact (HRS.out.below hb5).more hb5.size
  · have HNO : Hid (¬ RightR nodes copies K) := Lib.hid (fun h => hc ⟨h.1, h.2.1, h.2.2.1, h.2.2.2.1, by have := h.2.2.2.2.1; have := HN.out; omega⟩)
    by_cases d1 : nodes < 1
    · clear hc
      go_enter Tryd.func8, Tryd.ntmps8
      go_wp2_with fail
      go_ret2
      exact .inr ⟨HNO.out, rfl, Below.refl _ _⟩
    · by_cases d2 : nodes > 5
      · clear hc
        go_enter Tryd.func8, Tryd.ntmps8
        go_wp2_with fail
        go_ret2
        exact .inr ⟨HNO.out, rfl, Below.refl _ _⟩
      · by_cases d3 : copies < 1
        · clear hc
          go_enter Tryd.func8, Tryd.ntmps8
          go_wp2_with fail
          go_ret2
          exact .inr ⟨HNO.out, rfl, Below.refl _ _⟩
        · by_cases d4 : copies > nodes
          · clear hc
            go_enter Tryd.func8, Tryd.ntmps8
            go_wp2_with fail
            go_ret2
            exact .inr ⟨HNO.out, rfl, Below.refl _ _⟩
          · have d5 : n ≥ 4 := by
              by_cases h : n ≥ 4
              · exact h
              · exact absurd ⟨by omega, by omega, by omega, by omega, by omega⟩ hc
            clear hc
            go_enter Tryd.func8, Tryd.ntmps8
            go_wp2_with fail
            go_ret2
            exact .inr ⟨HNO.out, rfl, Below.refl _ _⟩
end Go.Proofs.YtncdchhpdbmfcaaDoor
