/- Contract of nums.ReadStamp. The text is at most 10^6 bytes long. -/
import Derived.Test.YtnaaknkknhediaaNumsTextsWalk
import Derived.Test.YtnaaknkknhediaaPlainS
import Derived.Test.YtnaaknkknhediaaStrs
import Derived.Deep.Cut
import Derived.Outline
namespace Go.Proofs.Ytnaaknkknhediaa
open Go.RowKit Go.Sort


/-- What ReadStamp hands back. -/
def rsV (o : Option (Nat × Nat × Nat)) : Value := match o with
  | some (x, y, z) => .tuple #[.agg #[.int .i64 x, .int .i64 y, .int .i64 z], .int .i64 0]
  | none => .tuple #[.agg #[.int .i64 0, .int .i64 0, .int .i64 0], .int .i64 20]

theorem read_some (a : List UInt8) (x : Nat) (h : rd a = some x) (hl : a.length ≤ 4000000) (w : World) : Calls Try.prog 18 #[.string ⟨a.toArray⟩] w fun e w' => e = .returned (.tuple #[.int .i64 x, .int .i64 0]) ∧ Below w.heap.size w w' :=
  (nums_Read ⟨a.toArray⟩ w (by simp [ByteArray.size]; omega)).mono fun _ _ ⟨he, hb⟩ => ⟨by rw [he]; simp only []; rw [rdNum_some h, rdErr_some h], hb⟩
theorem read_none (a : List UInt8) (h : rd a = none) (hl : a.length ≤ 4000000) (w : World) : Calls Try.prog 18 #[.string ⟨a.toArray⟩] w fun e w' => e = .returned (.tuple #[.int .i64 0, .int .i64 20]) ∧ Below w.heap.size w w' :=
  (nums_Read ⟨a.toArray⟩ w (by simp [ByteArray.size]; omega)).mono fun _ _ ⟨he, hb⟩ => ⟨by rw [he]; simp only []; rw [rdNum_none h, rdErr_none h], hb⟩

def StRel (w : World) (g0 g1 gi : Nat) (s : ByteArray) (v5 : Value) (wr : World) : Prop :=
  ∃ (k q : Nat) (L : List (List UInt8)), v5 = .int .i64 q ∧ q ≤ 2 ∧ L.length = 3 ∧ It wr gi s k ∧ Blk wr g1 104 (L.map sv).toArray ∧ Blk wr g0 51 #[.int .i64 0, .int .i64 0, .int .i64 0] ∧
    Below w.heap.size w wr ∧ StInv (bl s) k q L ∧ ∀ l ∈ L, l.length ≤ 4 * k ∧ l.length ≤ 4 * s.size

set_option maxRecDepth 100000 in
set_option maxHeartbeats 2000000 in
theorem nums_ReadStamp (s : ByteArray) (w : World) (hs : s.size ≤ 1000000) :
    Calls Try.prog 36 #[.string s] w fun e w' => e = .returned (rsV (rdS (bl s))) ∧ Below w.heap.size w w' := by
  go_enter Try.func36, Try.ntmps36
  go_wp2_with fail
  have B0 := ((Blk.new w 51 #[.int .i64 0, .int .i64 0, .int .i64 0]).alloc (.cells #[.string ⟨#[]⟩, .string ⟨#[]⟩, .string ⟨#[]⟩] 104)).iter s 0
  have B1 := (Blk.new (w.alloc (.cells #[.int .i64 0, .int .i64 0, .int .i64 0] 51)) 104 #[.string ⟨#[]⟩, .string ⟨#[]⟩, .string ⟨#[]⟩]).iter s 0
  have BI := It.new ((w.alloc (.cells #[.int .i64 0, .int .i64 0, .int .i64 0] 51)).alloc (.cells #[.string ⟨#[]⟩, .string ⟨#[]⟩, .string ⟨#[]⟩] 104)) s 0
  have hB := below_iter (((Below.refl w.heap.size w).alloc (Nat.le_refl _) (.cells #[.int .i64 0, .int .i64 0, .int .i64 0] 51)).alloc (by simp) (.cells #[.string ⟨#[]⟩, .string ⟨#[]⟩, .string ⟨#[]⟩] 104)) (by simp; omega) s 0
  rw [alloc_size] at B1
  rw [alloc_size, alloc_size] at BI
  generalize (World.iter _ s 0) = W at *
  go_loopw [5] (fun v5 wr => StRel w w.heap.size (w.heap.size + 1) (w.heap.size + 1 + 1) s v5 wr) (fun _ wr => s.size - wr.iterPos (w.heap.size + 1 + 1))
  case atStart => exact ⟨0, 0, [[], [], []], rfl, by omega, rfl, BI, B1, B0, hB, stInv_start _, by simp⟩
  case round =>
    clear B0 B1 BI hB
    obtain ⟨k, q, L, rfl, hq, hL, BI, B1, B0, hB, hI, hLk⟩ := hrel
    have hpos := BI.pos
    have hlt1 := B1.lt
    by_cases hk : k < s.size
    · obtain ⟨r, d, hD, hd1, hr, hcase⟩ := decode_some s k hk
      have hnx : ∀ ty, (Instr.next (.pointer (some ⟨w.heap.size + 1 + 1, 0, none⟩)) true ty).run Try.prog wr = .ok (.tuple #[.bool true, .int .i64 k, .int .i32 r]) (wr.iterAt (w.heap.size + 1 + 1) s (k + d)) := by
        intro ty
        rw [Lib.run_next_any_at wr _ s k ty BI hk, hD]
      clear hD
      have B0' := B0.iterAt (BI.ne B0) s (k + d)
      have B1' := B1.iterAt (BI.ne B1) s (k + d)
      have BI' := BI.at_ (k + d)
      have hB' := Lib.below_iterAt hB (k := w.heap.size + 1 + 1) (by omega) s (k + d)
      clear B0 B1 hB BI
      have HI := Lib.hid hI
      have HLk := Lib.hid hLk
      have HL := Lib.hid hL
      clear hI hLk hL
      generalize hV : wr.iterAt (w.heap.size + 1 + 1) s (k + d) = V at *
      have hkb : k < (bl s).length := by rw [bl_length]; exact hk
      have hbk : (bl s)[k] = s[k] := rfl
      have hqL : q < L.length := by have := HL.out; omega
      have c1 : V.cell? ⟨w.heap.size + 1, q, none⟩ = some (.string ⟨L[q].toArray⟩) := by
        rw [B1'.cell]
        simp [hqL, sv]
      have f1 : V.frozen? ⟨w.heap.size + 1, q, none⟩ = false := B1'.frozen q
      by_cases h46 : r = 46
      · subst h46
        have hs46 : (bl s)[k] = 46 := by
          rcases hcase with ⟨h1, h2, h3⟩ | ⟨h1, h2⟩
          · rw [hbk]; exact UInt8.toNat_inj.1 h2.symm
          · omega
        have hd1' : d = 1 := by
          rcases hcase with ⟨h1, h2, h3⟩ | ⟨h1, h2⟩
          · exact h3
          · omega
        clear hcase
        by_cases hq2 : q = 2
        · have hn : rdS (bl s) = none := stInv_four (by have h9 := HI.out; rw [hq2] at h9; exact h9) HL.out hkb hs46
          have hqb : ((q : Int) == 2) = true := by simp [hq2]
          have HN := Lib.hid hn
          clear hn hq2 hs46 hd1'
          have b0 := B0'.cell
          have fb0 := B0'.frozen
          have Z := ((B0'.set_ 0 (.int .i64 0)).set_ 1 (.int .i64 0)).set_ 2 (.int .i64 0)
          have z := Z.cell
          simp at z
          clear Z
          go_wp2_with fail
          (try simp only [Exit.inBlock, Exit.then])
          refine bodyPost_ret (v := .tuple #[.agg #[.int .i64 0, .int .i64 0, .int .i64 0], .int .i64 20]) (by simp [results, Try.results36, go_sem, z]) rfl ⟨by rw [HN.out]; rfl, ?_⟩
          exact ((hB'.setCell (p := ⟨w.heap.size, 0, none⟩) (by simp) _).setCell (p := ⟨w.heap.size, 1, none⟩) (by simp) _).setCell (p := ⟨w.heap.size, 2, none⟩) (by simp) _
        · have HS := Lib.hid (stInv_dot HI.out HL.out (by omega) hkb hs46)
          have hqb : ((q : Int) == 2) = false := by simp; omega
          subst hd1'
          clear hs46
          go_wp2_with fail
          go_roundw
          case rel => exact ⟨k + 1, q + 1, L, by go_num, by omega, HL.out, BI', B1', B0', hB', HS.out, fun l hl => by have := HLk.out l hl; omega⟩
          case measure => rw [BI'.pos, hpos]; omega
      · have hr45 : ¬ ((r : Int) = 46) := fun h => h46 (Int.ofNat_inj.1 h)
        have hr46 : ((r : Int) != 46) = true := by rw [bne_iff_ne]; exact hr45
        clear hr45
        have hm : (enc r).length ≤ 4 := enc_length r
        have hS : StInv (bl s) (k + d) q (L.set q ((L[q]'hqL) ++ enc r)) := by
          rcases hcase with ⟨h1, h2, h3⟩ | ⟨h1, h2⟩
          · subst h3
            have h4 : enc r = [(bl s)[k]'hkb] := by rw [h2, hbk]; exact enc_ascii _ h1
            rw [h4]
            exact stInv_add HI.out HL.out hq hkb (fun e => h46 (h2.trans (congrArg UInt8.toNat e)))
          · exact stInv_high HL.out hq hkb (by rw [hbk]; exact h1) (enc_high r h2)
        have hlen : ∀ l ∈ L.set q ((L[q]'hqL) ++ enc r), l.length ≤ 4 * (k + d) ∧ l.length ≤ 4 * s.size := by
          intro l hl
          rcases List.mem_or_eq_of_mem_set hl with h1 | h1
          · have := HLk.out l h1; omega
          · have := HLk.out (L[q]'hqL) (List.getElem_mem hqL)
            rw [h1, List.length_append]; omega
        have hlq : (L[q]'hqL).length ≤ 4000000 := by have := HLk.out (L[q]'hqL) (List.getElem_mem hqL); omega
        have he := enc_is r
        have B1'' := B1'.set_ q (sv ((L[q]'hqL) ++ enc r))
        have e1 : (L.map sv).toArray.setIfInBounds q (sv ((L[q]'hqL) ++ enc r)) = ((L.set q ((L[q]'hqL) ++ enc r)).map sv).toArray := by simp [List.map_set]
        rw [e1] at B1''
        have HS := Lib.hid hS
        have HLn := Lib.hid hlen
        clear hcase hS hlen e1 h46
        generalize enc r = m at *
        go_wp2_with fail
        go_roundw
        case rel => exact ⟨k + d, q, _, by go_num, hq, by rw [List.length_set]; exact HL.out, BI'.far (by simp) _, by rw [ByteArray.mk_append_mk]; exact B1'', B0'.far (by simp) _, hB'.setCell (by simp) _, HS.out, HLn.out⟩
        case measure => rw [(BI'.far (by simp) _).pos, hpos]; omega
    · have hnx : ∀ ty, (Instr.next (.pointer (some ⟨w.heap.size + 1 + 1, 0, none⟩)) true ty).run Try.prog wr = .ok (.tuple #[.bool false]) wr := fun ty => Lib.run_next_end_at wr _ s k ty BI hk
      match L, hL with
      | [a, b, c], _ =>
      have hE := stInv_end hI rfl hq (by rw [bl_length]; omega)
      have HE := Lib.hid hE
      have ha := hLk a (by simp)
      have hb := hLk b (by simp)
      have hc := hLk c (by simp)
      clear hI hLk hE BI hpos
      replace B1 : Blk wr (w.heap.size + 1) 104 #[.string ⟨a.toArray⟩, .string ⟨b.toArray⟩, .string ⟨c.toArray⟩] := B1
      have ea : bl ⟨a.toArray⟩ = a := rfl
      have eb : bl ⟨b.toArray⟩ = b := rfl
      have ec : bl ⟨c.toArray⟩ = c := rfl
      have hne0 := B0.lt
      go_wp2_with fail
      have BX := Blk.new wr 51 #[.int .i64 0, .int .i64 0, .int .i64 0]
      replace B0 := B0.alloc (.cells #[.int .i64 0, .int .i64 0, .int .i64 0] 51)
      replace B1 := B1.alloc (.cells #[.int .i64 0, .int .i64 0, .int .i64 0] 51)
      replace hB := hB.alloc hB.size (.cells #[.int .i64 0, .int .i64 0, .int .i64 0] 51)
      generalize wr.alloc (.cells #[.int .i64 0, .int .i64 0, .int .i64 0] 51) = Z at *
      generalize wr.heap.size = gx at *
      have hz0 : ∀ (w : World), (Instr.index 106 (.agg #[.pointer (some ⟨gx, 0, none⟩), .pointer (some ⟨gx, 1, none⟩), .pointer (some ⟨gx, 2, none⟩)]) (.int .i64 0)).run Try.prog w = .ok (.pointer (some ⟨gx, 0, none⟩)) w := fun _ => by kernel_rfl
      have hz1 : ∀ (w : World), (Instr.index 106 (.agg #[.pointer (some ⟨gx, 0, none⟩), .pointer (some ⟨gx, 1, none⟩), .pointer (some ⟨gx, 2, none⟩)]) (.int .i64 1)).run Try.prog w = .ok (.pointer (some ⟨gx, 1, none⟩)) w := fun _ => by kernel_rfl
      have hz2 : ∀ (w : World), (Instr.index 106 (.agg #[.pointer (some ⟨gx, 0, none⟩), .pointer (some ⟨gx, 1, none⟩), .pointer (some ⟨gx, 2, none⟩)]) (.int .i64 2)).run Try.prog w = .ok (.pointer (some ⟨gx, 2, none⟩)) w := fun _ => by kernel_rfl
      have hgx0 : w.heap.size ≠ gx := by omega
      have hgx1 : w.heap.size + 1 ≠ gx := by omega
      have hgx : w.heap.size ≤ gx := by omega
      refine wp_loop_rounds 4 ?_
      rw [rounds_succ]
      have c1 := B1.cell
      cases hra : rd a with
      | none =>
        have Ha := Lib.hid hra
        have HN := Lib.hid (all3_none (b := b) (c := c) (.inl hra))
        clear hra
        go_wp2_with fail
        refine (read_none a Ha.out (by omega) _).mono ?_
        rintro e wa ⟨rfl, ba⟩
        replace B0 := B0.below ba B0.lt
        replace B1 := B1.below ba B1.lt
        replace BX := BX.below ba BX.lt
        replace hB := hB.trans (ba.mono hB.size)
        clear ba
        clear c1
        have c0 := B0.cell
        have f0 := B0.frozen
        have ZZ := ((B0.set_ 0 (.int .i64 0)).set_ 1 (.int .i64 0)).set_ 2 (.int .i64 0)
        have zz := ZZ.cell
        simp at zz
        clear ZZ
        go_wp2_with fail
        (try simp only [Exit.inBlock, Exit.then])
        refine bodyPost_ret (v := .tuple #[.agg #[.int .i64 0, .int .i64 0, .int .i64 0], .int .i64 20]) (by simp [results, Try.results36, go_sem, zz]) rfl ⟨by rw [HE.out, HN.out]; rfl, ?_⟩
        exact ((hB.setCell (p := ⟨w.heap.size, 0, none⟩) (by simp) _).setCell (p := ⟨w.heap.size, 1, none⟩) (by simp) _).setCell (p := ⟨w.heap.size, 2, none⟩) (by simp) _
      | some xa =>
        have Ha := Lib.hid hra
        clear hra
        go_wp2_with fail
        refine (read_some a xa Ha.out (by omega) _).mono ?_
        rintro e wa ⟨rfl, ba⟩
        replace B0 := B0.below ba B0.lt
        replace B1 := B1.below ba B1.lt
        replace BX := BX.below ba BX.lt
        replace hB := hB.trans (ba.mono hB.size)
        clear ba
        clear c1
        have cx := BX.cell
        have fx := BX.frozen
        go_wp2_with fail
        clear cx fx
        replace B0 := B0.far (p := ⟨gx, 0, none⟩) (by simp; omega) (.int .i64 xa)
        replace B1 := B1.far (p := ⟨gx, 0, none⟩) (by simp; omega) (.int .i64 xa)
        replace hB := hB.setCell (p := ⟨gx, 0, none⟩) (by simp; omega) (.int .i64 xa)
        replace BX : Blk (wa.setCell ⟨gx, 0, none⟩ (.int .i64 xa)) gx 51 #[.int .i64 xa, .int .i64 0, .int .i64 0] := by simpa using BX.set_ 0 (.int .i64 xa)
        generalize (World.setCell _ (⟨gx, 0, none⟩ : Addr) (.int .i64 xa)) = Za at *
        have c1 := B1.cell
        have cx := BX.cell
        rw [rounds_succ]
        cases hrb : rd b with
        | none =>
          have Hb := Lib.hid hrb
          have HN := Lib.hid (all3_none (a := a) (c := c) (.inr (.inl hrb)))
          clear hrb
          go_wp2_with fail
          refine (read_none b Hb.out (by omega) _).mono ?_
          rintro e wb ⟨rfl, bb⟩
          replace B0 := B0.below bb B0.lt
          replace B1 := B1.below bb B1.lt
          replace BX := BX.below bb BX.lt
          replace hB := hB.trans (bb.mono hB.size)
          clear bb
          clear c1
          have c0 := B0.cell
          have f0 := B0.frozen
          have ZZ := ((B0.set_ 0 (.int .i64 0)).set_ 1 (.int .i64 0)).set_ 2 (.int .i64 0)
          have zz := ZZ.cell
          simp at zz
          clear ZZ
          go_wp2_with fail
          (try simp only [Exit.inBlock, Exit.then])
          refine bodyPost_ret (v := .tuple #[.agg #[.int .i64 0, .int .i64 0, .int .i64 0], .int .i64 20]) (by simp [results, Try.results36, go_sem, zz]) rfl ⟨by rw [HE.out, HN.out]; rfl, ?_⟩
          exact ((hB.setCell (p := ⟨w.heap.size, 0, none⟩) (by simp) _).setCell (p := ⟨w.heap.size, 1, none⟩) (by simp) _).setCell (p := ⟨w.heap.size, 2, none⟩) (by simp) _
        | some xb =>
          have Hb := Lib.hid hrb
          clear hrb
          go_wp2_with fail
          refine (read_some b xb Hb.out (by omega) _).mono ?_
          rintro e wb ⟨rfl, bb⟩
          replace B0 := B0.below bb B0.lt
          replace B1 := B1.below bb B1.lt
          replace BX := BX.below bb BX.lt
          replace hB := hB.trans (bb.mono hB.size)
          clear bb
          clear c1
          have cx := BX.cell
          have fx := BX.frozen
          go_wp2_with fail
          clear cx fx
          replace B0 := B0.far (p := ⟨gx, 1, none⟩) (by simp; omega) (.int .i64 xb)
          replace B1 := B1.far (p := ⟨gx, 1, none⟩) (by simp; omega) (.int .i64 xb)
          replace hB := hB.setCell (p := ⟨gx, 1, none⟩) (by simp; omega) (.int .i64 xb)
          replace BX : Blk (wb.setCell ⟨gx, 1, none⟩ (.int .i64 xb)) gx 51 #[.int .i64 xa, .int .i64 xb, .int .i64 0] := by simpa using BX.set_ 1 (.int .i64 xb)
          generalize (World.setCell _ (⟨gx, 1, none⟩ : Addr) (.int .i64 xb)) = Zb at *
          have c1 := B1.cell
          have cx := BX.cell
          rw [rounds_succ]
          cases hrc : rd c with
          | none =>
            have Hc := Lib.hid hrc
            have HN := Lib.hid (all3_none (a := a) (b := b) (.inr (.inr hrc)))
            clear hrc
            go_wp2_with fail
            refine (read_none c Hc.out (by omega) _).mono ?_
            rintro e wc ⟨rfl, bc⟩
            replace B0 := B0.below bc B0.lt
            replace B1 := B1.below bc B1.lt
            replace BX := BX.below bc BX.lt
            replace hB := hB.trans (bc.mono hB.size)
            clear bc
            clear c1
            have c0 := B0.cell
            have f0 := B0.frozen
            have ZZ := ((B0.set_ 0 (.int .i64 0)).set_ 1 (.int .i64 0)).set_ 2 (.int .i64 0)
            have zz := ZZ.cell
            simp at zz
            clear ZZ
            go_wp2_with fail
            (try simp only [Exit.inBlock, Exit.then])
            refine bodyPost_ret (v := .tuple #[.agg #[.int .i64 0, .int .i64 0, .int .i64 0], .int .i64 20]) (by simp [results, Try.results36, go_sem, zz]) rfl ⟨by rw [HE.out, HN.out]; rfl, ?_⟩
            exact ((hB.setCell (p := ⟨w.heap.size, 0, none⟩) (by simp) _).setCell (p := ⟨w.heap.size, 1, none⟩) (by simp) _).setCell (p := ⟨w.heap.size, 2, none⟩) (by simp) _
          | some xc =>
            have Hc := Lib.hid hrc
            have HS := Lib.hid (all3_some Ha.out Hb.out hrc)
            clear hrc
            go_wp2_with fail
            refine (read_some c xc Hc.out (by omega) _).mono ?_
            rintro e wc ⟨rfl, bc⟩
            replace B0 := B0.below bc B0.lt
            replace B1 := B1.below bc B1.lt
            replace BX := BX.below bc BX.lt
            replace hB := hB.trans (bc.mono hB.size)
            clear bc
            clear c1
            have cx := BX.cell
            have fx := BX.frozen
            go_wp2_with fail
            clear cx fx
            replace B0 := B0.far (p := ⟨gx, 2, none⟩) (by simp; omega) (.int .i64 xc)
            replace B1 := B1.far (p := ⟨gx, 2, none⟩) (by simp; omega) (.int .i64 xc)
            replace hB := hB.setCell (p := ⟨gx, 2, none⟩) (by simp; omega) (.int .i64 xc)
            replace BX : Blk (wc.setCell ⟨gx, 2, none⟩ (.int .i64 xc)) gx 51 #[.int .i64 xa, .int .i64 xb, .int .i64 xc] := by simpa using BX.set_ 2 (.int .i64 xc)
            generalize (World.setCell _ (⟨gx, 2, none⟩ : Addr) (.int .i64 xc)) = Zc at *
            have c1 := B1.cell
            have cx := BX.cell
            rw [rounds_succ]
            have ZZ := ((B0.set_ 0 (.int .i64 xa)).set_ 1 (.int .i64 xb)).set_ 2 (.int .i64 xc)
            have zz := ZZ.cell
            simp at zz
            clear ZZ
            have c0 := B0.cell
            have f0 := B0.frozen
            go_wp2_with fail
            (try simp only [Exit.inBlock, Exit.then])
            refine bodyPost_ret (v := .tuple #[.agg #[.int .i64 xa, .int .i64 xb, .int .i64 xc], .int .i64 0]) (by simp [results, Try.results36, go_sem, zz]) rfl ⟨by rw [HE.out, HS.out]; rfl, ?_⟩
            exact ((hB.setCell (p := ⟨w.heap.size, 0, none⟩) (by simp) _).setCell (p := ⟨w.heap.size, 1, none⟩) (by simp) _).setCell (p := ⟨w.heap.size, 2, none⟩) (by simp) _
end Go.Proofs.Ytnaaknkknhediaa
