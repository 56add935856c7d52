/- Contract of glob.New. Condition: the tables of unicode/utf8 lie as they are laid. -/
import Derived.Test.YtedegdojbhegdaaDoorGloC
import Derived.Test.YtedegdojbhegdaaDoorRnRT
namespace Go.Proofs.YtedegdojbhegdaaDoor
open Go.RowKit Go.Sort

/-- A row of parts that reads, with its rows of spans. -/
structure PatR (c : PS → List Value) (sz : Nat) (w : World) (B : Nat) (A : Option Addr) (n : Nat) (L : List PS) : Prop where
  reads : Reads w B sz A n (L.flatMap c)
  hang : ∀ e ∈ L, Reads w B 2 e.A e.n e.x
  small : ∀ e ∈ L, e.small
theorem PatR.keep {c : PS → List Value} {sz B n : Nat} {w w' : World} {A : Option Addr} {L : List PS} (h : PatR c sz w B A n L) (hk : ∀ p : Addr, p.block < B → w'.cell? p = w.cell? p) : PatR c sz w' B A n L := ⟨h.reads.keep hk, fun e he => (h.hang e he).keep hk, h.small⟩
theorem PatR.more {c : PS → List Value} {sz B B' n : Nat} {w : World} {A : Option Addr} {L : List PS} (h : PatR c sz w B A n L) (hb : B ≤ B') : PatR c sz w B' A n L := ⟨h.reads.more hb, fun e he => (h.hang e he).more hb, h.small⟩
theorem PatR.below {c : PS → List Value} {sz B n : Nat} {w w' : World} {A : Option Addr} {L : List PS} (h : PatR c sz w B A n L) (hb : Below B w w') : PatR c sz w' B A n L := h.keep fun _ hp => hb.cell hp
theorem NwB.pat {T : TypeId} {sz g5 base n cc : Nat} {c : PS → List Value} {w wr : World} {RL : List Nat} {L : List PS} {A : Option Addr} (h : NwB T sz c w RL g5 base L (.slice A n cc) wr) : n = L.length ∧ PatR c sz wr wr.heap.size A n L := by
  obtain ⟨A', c', hv, _⟩ := own_form h.own
  injection hv with h1 h2 h3
  subst h1 h2 h3
  exact ⟨rfl, Reads.of_own h.own, fun e he => (h.hang e he).1, h.small⟩
/-- What New ends in. -/
def NewEnd (w : World) (s : ByteArray) (x : Ending) (w' : World) : Prop :=
  Below w.heap.size w w' ∧ ((patP s = none ∧ x = .returned (.tuple #[.agg #[.slice none 0 0, .string ⟨#[]⟩], .int .i64 10])) ∨
    ∃ (A : Option Addr) (n c : Nat) (L : List PS), patP s = some (L.map PS.p) ∧ x = .returned (.tuple #[.agg #[.slice A n c, .string s], .int .i64 0]) ∧ n = L.length ∧ n ≤ c ∧ PatR psL 4 w' w'.heap.size A n L)

set_option maxRecDepth 100000 in
set_option maxHeartbeats 4000000 in
theorem glob_New (s : ByteArray) (hs : s.size ≤ 9223372036854775807) (w : World) (hT : Tabs w) : Calls Tryd.prog 16 #[.string s] w (NewEnd w s) := by
  have B2 := Blk.new w 35 #[.slice none 0 0, .string ⟨#[]⟩]
  have hB : Below w.heap.size w (w.alloc (.cells #[.slice none 0 0, .string ⟨#[]⟩] 35)) := (Below.refl _ _).alloc (Nat.le_refl _) _
  by_cases h100 : 100 < s.size
  · have hp : Hid (patP s = none) := Lib.hid (by unfold patP; rw [if_pos (.inl h100)])
    have f2 := B2.frozen
    have c2 := B2.cell
    clear hT
    go_enter Tryd.func16, Tryd.ntmps16
    go_wp2_with fail
    refine bodyPost_ret (v := .tuple #[.agg #[.slice none 0 0, .string ⟨#[]⟩], .int .i64 10]) (by simp [results, Tryd.results16, go_sem]) rfl ?_
    exact ⟨hB, .inl ⟨hp.out, rfl⟩⟩
  have hd100 : decide (100 < (s.size : Int)) = false := by simp; omega
  have HC := Lib.hid (Tryd.utf8_ValidString s (w.alloc (.cells #[.slice none 0 0, .string ⟨#[]⟩] 35)) hs (hT.below hB))
  rw [valid_all s] at HC
  clear hT
  have hlt := B2.lt
  cases hv : allRunes s with
  | false =>
    have hp : Hid (patP s = none) := Lib.hid (by unfold patP; rw [if_pos (.inr hv)])
    rw [hv] at HC
    clear hv
    go_enter Tryd.func16, Tryd.ntmps16
    go_wp2_with fail
    refine HC.out.mono ?_
    clear HC
    rintro e w2 ⟨rfl, b2⟩
    replace B2 := B2.below b2 hlt
    replace hB := hB.trans (b2.mono hB.size)
    clear b2
    have f2 := B2.frozen
    have c2 := B2.cell
    go_wp2_with fail
    have zz := ((B2.set_ 0 (.slice none 0 0)).set_ 1 (.string ⟨#[]⟩)).cell
    simp at zz
    refine bodyPost_ret (v := .tuple #[.agg #[.slice none 0 0, .string ⟨#[]⟩], .int .i64 10]) (by simp [results, Tryd.results16, go_sem, zz]) rfl ?_
    exact ⟨below_set (below_set hB (Nat.le_refl _) 0 _) (Nat.le_refl _) 1 _, .inl ⟨hp.out, rfl⟩⟩
  | true =>
    have HP : Hid (patP s = pt (rest s 0)) := Lib.hid (by unfold patP; rw [if_neg (by rw [hv]; simp; omega)])
    rw [hv] at HC
    clear hv
    have hcv := conv_runes s (by omega)
    have hRl := rest_length s 0
    have HRS := Lib.hid (fun r hr => rest_le s 0 r hr)
    go_enter Tryd.func16, Tryd.ntmps16
    go_wp2_with fail
    refine HC.out.mono ?_
    clear HC
    rintro e w2 ⟨rfl, b2⟩
    replace B2 := (B2.below b2 hlt).alloc (.cells #[.slice none 0 0, .string s] 35)
    have B4 := Blk.new w2 35 #[.slice none 0 0, .string s]
    replace hB := (hB.trans (b2.mono hB.size)).alloc (Nat.le_trans hB.size b2.size) (.cells #[.slice none 0 0, .string s] 35)
    have h24 : w.heap.size < w2.heap.size := Nat.lt_of_lt_of_le hlt b2.size
    clear b2 hlt
    go_upto_region 5 with fail
    have hBr := rnW_below s (w2.alloc (.cells #[.slice none 0 0, .string s] 35))
    have hrc := rnW_cell s (w2.alloc (.cells #[.slice none 0 0, .string s] 35))
    have hsz := rnW_size s (w2.alloc (.cells #[.slice none 0 0, .string s] 35))
    have hcap := rnC_le s (w2.alloc (.cells #[.slice none 0 0, .string s] 35))
    replace B2 := B2.below hBr (by simp; omega)
    replace B4 := B4.below hBr (by simp)
    replace hB := hB.trans (hBr.mono (by simp; omega))
    simp only [World.size_alloc] at hrc hsz
    have HSN : Hid (∀ r ∈ rest s 0, Sc r) := Lib.hid (rest_sc s 0)
    clear hcv hBr
    generalize rnW s (w2.alloc (.cells #[.slice none 0 0, .string s] 35)) = W at *
    generalize rnC s (w2.alloc (.cells #[.slice none 0 0, .string s] 35)) = cap at *
    generalize rest s 0 = RL at *
    obtain ⟨g4, hg4e⟩ : ∃ g, w2.heap.size = g := ⟨_, rfl⟩
    rw [hg4e] at B4 hrc hsz h24 ⊢
    have hg5e : g4 + 1 < g4 + 2 := by omega
    have hg4 : g4 < g4 + 2 := by omega
    have hg45 : g4 ≠ g4 + 1 := by omega
    have hg2 : w.heap.size < g4 + 2 := by omega
    obtain ⟨base, hbase⟩ : ∃ b, g4 + 2 = b := ⟨_, rfl⟩
    have hN : NwB 76 4 psL w RL (g4 + 1) base [] (.slice none 0 0) W := ⟨World.ownsRow_nil _ _ _ _, Hangs.nil_, fun e he => (by cases he), fun e he => (by cases he), hrc, hB, by omega, by omega, by omega⟩
    rw [hbase] at hg5e hg4 hg2
    have HPT0 := Lib.hid (PtR.zero RL)
    clear hrc hsz hB hg4e hbase
    go_wp2_with fail
    go_loopw [6] (fun v6 wr => ∃ (i : Nat) (L : List PS) (v : Value), v6 = .int .i64 i ∧ PtR RL i L ∧ NwB 76 4 psL w RL (g4 + 1) base L v wr ∧ Blk wr g4 35 #[v, .string s] ∧ Blk wr w.heap.size 35 #[.slice none 0 0, .string ⟨#[]⟩]) (fun v6 _ => RL.length - (RowKit.intOf v6).toNat)
    case atStart => exact ⟨0, [], _, rfl, HPT0.out, hN, B4, B2⟩
    case round =>
      clear hN B4 B2
      obtain ⟨i, L, v, rfl, hpt, hN, B4, B2⟩ := hrel
      obtain ⟨A3, n3, c3, rfl⟩ := own_slice hN.own
      have HPT := Lib.hid hpt
      clear hpt
      have hL : L.length ≤ 100 := by have := HPT.out.1; have := HPT.out.2.1; omega
      have hi100 : i ≤ 100 := by have := HPT.out.1; omega
      by_cases hi : i < RL.length
      · have c0 : wr.cell? ⟨g4 + 1, i, none⟩ = some (.int .i32 (RL[i] : Int)) := hN.runes i _ (List.getElem?_eq_getElem hi)
        have hpa := pt_at hi
        obtain ⟨x, hx⟩ : ∃ x, RL[i] = x := ⟨_, rfl⟩
        rw [hx] at c0 hpa
        have k4 := B4.cell
        have f4 := B4.frozen
        by_cases h42 : x = 42
        · subst h42
          rw [if_pos rfl] at hpa
          have HPT9 := Lib.hid (HPT.out.go 1 ⟨⟨3, []⟩, none, 0, 0⟩ (Nat.le_refl _) hi hpa)
          clear hpa hx
          go_wp2_with (at_builtin; refine append_part _ ⟨⟨3, []⟩, none, 0, 0⟩ _ rfl _ rfl _ _ rfl base (.slice A3 n3 c3) L rfl hN.own rfl (by omega) hN.base_le ?_; intro v6 w6 R6 g6 L6; obtain ⟨A6, n6, d6, rfl⟩ := own_slice R6; have B46 := Blk.grown B4 g6 (fun e => hN.own_ne hg4 e.symm); have f46 := B46.frozen; have c46 := B46.cell)
          have hN6 := hN.push (e := ⟨⟨3, []⟩, none, 0, 0⟩) Reads.none_ (fun ad h => (by cases h)) ⟨by decide, by decide, fun _ => rfl, fun _ => rfl⟩ R6 g6 L6
          go_roundw
          case rel => exact ⟨i + 1, L ++ [⟨⟨3, []⟩, none, 0, 0⟩], .slice A6 n6 d6, by go_num, HPT9.out, hN6.set (by omega) hg4 hg45 0 _, B46.set_ 0 _, (B2.grown g6 (fun e => hN.own_ne hg2 e.symm)).far (show w.heap.size ≠ g4 by omega) _⟩
          case measure => simp [RowKit.intOf]; omega
        by_cases h63 : x = 63
        · subst h63
          rw [if_neg (by decide), if_pos rfl] at hpa
          have HPT9 := Lib.hid (HPT.out.go 1 ⟨⟨2, []⟩, none, 0, 0⟩ (Nat.le_refl _) hi hpa)
          clear hpa hx h42
          go_wp2_with (at_builtin; refine append_part _ ⟨⟨2, []⟩, none, 0, 0⟩ _ rfl _ rfl _ _ rfl base (.slice A3 n3 c3) L rfl hN.own rfl (by omega) hN.base_le ?_; intro v6 w6 R6 g6 L6; obtain ⟨A6, n6, d6, rfl⟩ := own_slice R6; have B46 := Blk.grown B4 g6 (fun e => hN.own_ne hg4 e.symm); have f46 := B46.frozen; have c46 := B46.cell)
          have hN6 := hN.push (e := ⟨⟨2, []⟩, none, 0, 0⟩) Reads.none_ (fun ad h => (by cases h)) ⟨by decide, by decide, fun _ => rfl, fun _ => rfl⟩ R6 g6 L6
          go_roundw
          case rel => exact ⟨i + 1, L ++ [⟨⟨2, []⟩, none, 0, 0⟩], .slice A6 n6 d6, by go_num, HPT9.out, hN6.set (by omega) hg4 hg45 0 _, B46.set_ 0 _, (B2.grown g6 (fun e => hN.own_ne hg2 e.symm)).far (show w.heap.size ≠ g4 by omega) _⟩
          case measure => simp [RowKit.intOf]; omega
        have e42 : ((x : Int) == 42) = false := by simp; omega
        have e63 : ((x : Int) == 63) = false := by simp; omega
        by_cases h91 : x = 91
        · subst h91
          rw [if_neg (by decide), if_neg (by decide), if_pos rfl] at hpa
          have HPA := Lib.hid hpa
          have key : ∀ A' n' c', Reads wr wr.heap.size 1 A' n' ((RL.drop (i + 1)).map rv) → Calls Tryd.prog 50 #[.slice A' n' c'] wr (ClEnd wr (RL.drop (i + 1))) := fun A' n' c' h => glob_class A' _ _ _ wr h (by have := runes_n h; simp at this; omega)
          have KEY := Lib.hid key
          have htl := hN.tail (i + 1) cap hi hcap
          have hlen : (RL.drop (i + 1)).length ≤ 100 := by simp; omega
          clear hpa hx key e42 e63 h42 h63
          have HTL := Lib.hid htl
          clear htl
          by_cases hck : cap = i + 1
          case' pos =>
            subst hck
            have hrd : Reads wr wr.heap.size 1 (some ⟨g4 + 1, 0, none⟩) 0 ((RL.drop (i + 1)).map rv) := by
              have h9 := HTL.out.1 rfl
              rwa [show RL.length - (i + 1) = 0 by omega] at h9
          case' neg => have hrd := HTL.out.2 hck
          all_goals
            go_wp2_with fail
            refine (KEY.out _ _ _ hrd).mono ?_
            rintro y w5 ⟨e, m, ok, rfl, hok, hyes, b5⟩
            have hN5 := hN.next b5
            have B45 := B4.below b5 B4.lt
            have B25 := B2.below b5 B2.lt
            have hyes := Lib.hid hyes
            obtain ⟨b3, hb3⟩ : ∃ b, (e.p.kind == 3) = b := ⟨_, rfl⟩
            obtain ⟨b2, hb2⟩ : ∃ b, (e.p.kind == 2) = b := ⟨_, rfl⟩
            obtain ⟨b1, hb1⟩ : ∃ b, (e.p.kind == 1) = b := ⟨_, rfl⟩
            have hps : psC e = #[.bool b3, .bool b2, .bool b1, .slice e.A e.n e.c] := by unfold psC; rw [hb3, hb2, hb1]
            have hpl : psL e = [.bool b3, .bool b2, .bool b1, .slice e.A e.n e.c] := by unfold psL; rw [hb3, hb2, hb1]
            rw [hps]
            have HPL := Lib.hid hpl
            clear hps hpl hb3 hb2 hb1 k4 f4 c0
            have BT := Blk.new w5 76 #[.bool b3, .bool b2, .bool b1, .slice e.A e.n e.c]
            have hN7 := hN5.alloc (.cells #[.bool b3, .bool b2, .bool b1, .slice e.A e.n e.c] 76)
            have B47 := B45.alloc (.cells #[.bool b3, .bool b2, .bool b1, .slice e.A e.n e.c] 76)
            have B27 := B25.alloc (.cells #[.bool b3, .bool b2, .bool b1, .slice e.A e.n e.c] 76)
            have k47 := B47.cell
            have f47 := B47.frozen
            have k27 := B27.cell
            have f27 := B27.frozen
            have kT := BT.cell
            cases hc : classP (RL.drop (i + 1)) with
            | none =>
              have hok' : ok = false := by rw [hok, hc]; rfl
              subst hok'
              have HF := Lib.hid (HPT.out.fail (by rw [HPA.out, hc]))
              clear hok hc
              go_wp2_with fail
              have zz := ((B27.set_ 0 (.slice none 0 0)).set_ 1 (.string ⟨#[]⟩)).cell
              simp at zz
              refine bodyPost_ret (v := .tuple #[.agg #[.slice none 0 0, .string ⟨#[]⟩], .int .i64 10]) (by simp [results, Tryd.results16, go_sem, zz]) rfl ?_
              exact ⟨below_set (below_set hN7.bel (Nat.le_refl _) 0 _) (Nat.le_refl _) 1 _, .inl ⟨by rw [HP.out, HF.out], rfl⟩⟩
            | some q =>
              obtain ⟨p, k⟩ := q
              have hok' : ok = true := by rw [hok, hc]; rfl
              subst hok'
              obtain ⟨rfl, rfl, hre, hrb⟩ := hyes.out p k hc
              have hle := classP_le hc
              have hcl := classP_len hc
              have hsn := sp_n hre
              have hdl : (RL.drop (i + 1)).length = RL.length - (i + 1) := by simp
              have hkm : i + (m + 1) ≤ RL.length := by omega
              have HPT9 := Lib.hid (HPT.out.go (m + 1) e (by omega) hkm (by rw [HPA.out, hc]))
              have HSM : e.small := ⟨by omega, by omega, fun h => by have := hle.2.2.1; omega, fun h => by have := hle.2.2.1; omega⟩
              have HRE := Lib.hid ((hre.alloc (Nat.le_refl _) (.cells #[.bool b3, .bool b2, .bool b1, .slice e.A e.n e.c] 76)).more (B' := (w5.alloc (.cells #[.bool b3, .bool b2, .bool b1, .slice e.A e.n e.c] 76)).heap.size) (by simp))
              have HRB : ∀ ad, e.A = some ad → base ≤ ad.block ∧ ad.block < (w5.alloc (.cells #[.bool b3, .bool b2, .bool b1, .slice e.A e.n e.c] 76)).heap.size ∧ (Value.slice A3 n3 c3).ownBlock ≠ some ad.block := fun ad ha => ⟨Nat.le_trans hN.base_le (hrb ad ha).1, by have := (hrb ad ha).2; simp; omega, fun e1 => by have := (World.ownsRow.lt hN.own _ e1).2; have := (hrb ad ha).1; omega⟩
              have HRB := Lib.hid HRB
              clear hok hc hre hrb hle hcl hsn hdl hyes
              go_wp2_with (at_builtin; refine append_part _ e #[.bool b3, .bool b2, .bool b1, .slice e.A e.n e.c] HPL.out.symm _ rfl _ _ rfl base (.slice A3 n3 c3) L rfl hN7.own (by rw [World.size_alloc]; rfl) (by omega) hN7.base_le ?_; intro v6 w6 R6 g6 L6; obtain ⟨A6, n6, d6, rfl⟩ := own_slice R6; have B46 := Blk.grown B47 g6 (fun e => hN7.own_ne hg4 e.symm); have f46 := B46.frozen; have c46 := B46.cell)
              have hN6 := hN7.push (e := e) HRE.out HRB.out HSM R6 g6 L6
              go_roundw
              case rel => exact ⟨i + (m + 1), L ++ [e], .slice A6 n6 d6, by go_num, HPT9.out, hN6.set (by omega) hg4 hg45 0 _, B46.set_ 0 _, (B27.grown g6 (fun e => hN7.own_ne hg2 e.symm)).far (show w.heap.size ≠ g4 by omega) _⟩
              case measure => simp [RowKit.intOf]; omega
        have e91 : ((x : Int) == 91) = false := by simp; omega
        rw [if_neg h42, if_neg h63, if_neg h91] at hpa
        have HPT9 := Lib.hid (HPT.out.go 1 ⟨⟨0, [(x, x)]⟩, some ⟨wr.heap.size, 0, none⟩, 1, 1⟩ (Nat.le_refl _) hi hpa)
        have hbase := hN.base_le
        have q0 : ∀ p : Kept (· < base) wr.drew, p.v.cell? ⟨g4, 0, none⟩ = some (.slice A3 n3 c3) := fun p => p.h.cell hg4 (B4.drew.cell 0)
        have q5 : ∀ p : Kept (· < base) wr.drew, p.v.cell? ⟨g4 + 1, i, none⟩ = some (.int .i32 (x : Int)) := fun p => p.h.cell hg5e c0
        clear hpa hx k4 f4 h42 h63 h91
        go_wp2_with fail
        clear c0
        refine wp_region_mixTk (M := []) (· < base) 15 [0, 1, 2, 3, 4, 5, 6, 7, 8, 9, 10, 11, 12, 13, 14] (by kernel_rfl) (by kernel_rfl) ?_
        iterate 11 (refine mix_calmDk rfl rfl ?_; go_big_quiet_step (fail); refine wpQuiet_nil ?_)
        refine mix_loudDk rfl (by kernel_rfl) rfl ?_
        intro K1 hK1
        have HK := Lib.hid hK1
        clear hK1 q0 q5
        go_wp2_with fail
        refine HK.out _ _ ((Stand.refl _ _).alloc _) ?_
        clear HK
        iterate 1 (refine mix_calmDk rfl rfl ?_; go_big_quiet_step (fail); refine wpQuiet_nil ?_)
        refine mix_loudDk rfl (by kernel_rfl) rfl ?_
        intro K1 hK1
        have HK := Lib.hid hK1
        clear hK1
        go_wp2_with fail
        refine HK.out _ _ ((Stand.refl _ _).alloc _) ?_
        clear HK
        refine mix_loudDk rfl (by kernel_rfl) rfl ?_
        intro K1 hK1
        have HK := Lib.hid hK1
        clear hK1
        have hNd : NwB 76 4 psL w RL (g4 + 1) base L (.slice A3 n3 c3) (wr.alloc (.cells #[.int .i32 (x : Int), .int .i32 (x : Int)] 79)).drew := (hN.alloc (.cells #[.int .i32 (x : Int), .int .i32 (x : Int)] 79)).drewN 1
        have hNe := hNd.alloc (.cells #[.bool false, .bool false, .bool false, .slice (some ⟨wr.heap.size, 0, none⟩) 1 1] 76)
        have hrd : Reads ((wr.alloc (.cells #[.int .i32 (x : Int), .int .i32 (x : Int)] 79)).drew.alloc (.cells #[.bool false, .bool false, .bool false, .slice (some ⟨wr.heap.size, 0, none⟩) 1 1] 76)) (wr.heap.size + 2) 2 (some ⟨wr.heap.size, 0, none⟩) 1 (sp2 (x, x)) := by
          have h8 := reads_new wr 79 2 #[.int .i32 (x : Int), .int .i32 (x : Int)] (sp2 (x, x)) rfl rfl
          exact ((h8.drew).alloc (Nat.le_refl _) _).more (by simp)
        have B48 := ((B4.alloc (.cells #[.int .i32 (x : Int), .int .i32 (x : Int)] 79)).drew).alloc (.cells #[.bool false, .bool false, .bool false, .slice (some ⟨wr.heap.size, 0, none⟩) 1 1] 76)
        have B28 := ((B2.alloc (.cells #[.int .i32 (x : Int), .int .i32 (x : Int)] 79)).drew).alloc (.cells #[.bool false, .bool false, .bool false, .slice (some ⟨wr.heap.size, 0, none⟩) 1 1] 76)
        go_wp2_with (at_builtin; (refine append_part_b (wr.alloc (.cells #[.int .i32 (x : Int), .int .i32 (x : Int)] 79)).drew ⟨⟨0, [(x, x)]⟩, some ⟨wr.heap.size, 0, none⟩, 1, 1⟩ #[.bool false, .bool false, .bool false, .slice (some ⟨wr.heap.size, 0, none⟩) 1 1] rfl 76 rfl _ _ rfl base (.slice A3 n3 c3) L rfl hNd.own (by rw [show (wr.alloc (.cells #[.int .i32 (x : Int), .int .i32 (x : Int)] 79)).drew.heap.size = wr.heap.size + 1 from World.size_alloc _ _]; rfl) (by omega) hNd.base_le ?_); intro v6 w6 R6 g6 L6)
        obtain ⟨A6, n6, d6, rfl⟩ := own_slice R6
        have B46 := Blk.grown B48 g6 (fun e => hNe.own_ne hg4 e.symm)
        have f46 := B46.frozen
        have c46 := B46.cell
        have hN6 := hNe.push (e := ⟨⟨0, [(x, x)]⟩, some ⟨wr.heap.size, 0, none⟩, 1, 1⟩) (by have := hrd.more (B' := ((wr.alloc (.cells #[.int .i32 (x : Int), .int .i32 (x : Int)] 79)).drew.alloc (.cells #[.bool false, .bool false, .bool false, .slice (some ⟨wr.heap.size, 0, none⟩) 1 1] 76)).heap.size) (by simp); exact this) (fun ad h => by injection h with h; subst h; exact ⟨hN.base_le, by simp; omega, fun e1 => by have := (World.ownsRow.lt hN.own _ e1).2; simp at this⟩) ⟨by show (1 : Nat) ≤ 1000000; omega, by show (0 : Nat) ≤ 3; omega, (fun h => by cases h), (fun h => by cases h)⟩ R6 g6 L6
        refine HK.out _ _ (Stand.of_grown g6 (fun k hk hlt => by have := (World.ownsRow.lt hNe.own k hk).1; omega)) ?_
        clear HK
        refine mix_endDk ?_
        go_wp2_with fail
        go_roundw
        case rel => exact ⟨i + 1, L ++ [⟨⟨0, [(x, x)]⟩, some ⟨wr.heap.size, 0, none⟩, 1, 1⟩], .slice A6 n6 d6, by go_num, HPT9.out, hN6.set (by omega) hg4 hg45 0 _, B46.set_ 0 _, (B28.grown g6 (fun e => hNe.own_ne hg2 e.symm)).far (show w.heap.size ≠ g4 by omega) _⟩
        case measure => simp [RowKit.intOf]; omega
      · have HD := Lib.hid (HPT.out.done hi)
        have k4 := B4.cell
        have k2 := B2.cell
        have f2 := B2.frozen
        go_wp2_with fail
        have zz := ((B2.set_ 0 (.slice A3 n3 c3)).set_ 1 (.string s)).cell
        simp at zz
        refine bodyPost_ret (v := .tuple #[.agg #[.slice A3 n3 c3, .string s], .int .i64 0]) (by simp [results, Tryd.results16, go_sem, zz]) rfl ?_
        have hN9 := (hN.set (Nat.le_refl _) hg2 (by omega) 0 (.slice A3 n3 c3)).set (Nat.le_refl _) hg2 (by omega) 1 (.string s)
        obtain ⟨hn9, hp9⟩ := hN9.pat
        obtain ⟨A8, c8, hv8, hnc8, _⟩ := own_form hN9.own
        injection hv8 with _ h8 h9
        exact ⟨hN9.bel, .inr ⟨_, _, _, L, by rw [HP.out, HD.out], rfl, hn9, by omega, hp9⟩⟩
end Go.Proofs.YtedegdojbhegdaaDoor
