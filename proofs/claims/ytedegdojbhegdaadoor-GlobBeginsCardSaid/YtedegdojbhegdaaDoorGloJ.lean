/- Contract of the reference's parts and Right. Condition: the tables of unicode/utf8 lie as they are laid. -/
import Derived.Test.YtedegdojbhegdaaDoorGloI
namespace Go.Proofs.YtedegdojbhegdaaDoor
open Go.RowKit Go.Sort

theorem info_rpart : (Tryd.prog.info? 87).map (fun i => (i.zero, i.size, i.bytes)) = some (some (.agg #[.int .i64 0, .slice none 0 0]), 2, 32) := by kernel_rfl
theorem rsL_one (e : PS) : ∀ u ∈ rsL e, u.oneCell' = true := by
  intro u hu
  simp only [rsL, List.mem_cons, List.mem_nil_iff, or_false] at hu
  rcases hu with rfl | rfl <;> rfl
theorem append_rpart {ops : Array Oper} {rest : List Oper} {o : Oper} {a : Act} {Q : Exit → Act → World → Prop} (w : World) (e : PS) (u : Array Value) (hu : u.toList = rsL e) (t : TypeId) (hgd : o.guard = none) (sl x : Operand)
    (ho : o.op = .call { callee := .builtin .append, args := #[sl, x], argTypes := #[80, 80] }) (base : Nat) (v : Value) (L : List PS) (hs : a.eval sl = v) (hown : w.ownsRow base 87 2 v L.length (L.flatMap rsL))
    (hx : a.eval x = .slice (some ⟨w.heap.size, 0, none⟩) 1 1) (hlen : L.length ≤ 1000000000) (hbase : base ≤ w.heap.size)
    (h : ∀ v' w', w'.ownsRow base 87 2 v' (L ++ [e]).length ((L ++ [e]).flatMap rsL) → (w.alloc (.cells u t)).grownBy w' v.ownBlock → LiesIn (w.alloc (.cells u t)) v v' → wpList Tryd.prog ops Q rest (a.put o.dst v') w') :
    wpList Tryd.prog ops Q (o :: rest) a (w.alloc (.cells u t)) := by
  refine append_elem_b w _ (rsL e) hu t hgd sl x 80 ho base 87 _ 2 32 Tryd.underlying80 info_rpart rfl (by decide) v L.length (L.flatMap rsL) hs hown rfl (rsL_one e) hx (by unfold maxLen; omega) (by omega) hbase ?_
  intro v' w' h1 h2 h3
  refine h v' w' ?_ h2 h3
  rw [List.flatMap_append, List.length_append]
  simpa using h1
/-- What the reference's parts ends in. -/
def RpEnd (w : World) (s : ByteArray) (x : Ending) (w' : World) : Prop :=
  Below w.heap.size w w' ∧ ((patP s = none ∧ x = .returned (.tuple #[.slice none 0 0, .bool false])) ∨
    ∃ (A : Option Addr) (n c : Nat) (L : List PS), patP s = some (L.map PS.p) ∧ x = .returned (.tuple #[.slice A n c, .bool true]) ∧ n = L.length ∧ n ≤ c ∧ PatR rsL 2 w' w'.heap.size A n L)

set_option maxRecDepth 100000 in
set_option maxHeartbeats 4000000 in
theorem ref38_parts (s : ByteArray) (hs : s.size ≤ 9223372036854775807) (w : World) (hT : Tabs w) : Calls Tryd.prog 51 #[.string s] w (RpEnd w s) := by
  by_cases h100 : 100 < s.size
  · have hp : Hid (patP s = none) := Lib.hid (by unfold patP; rw [if_pos (.inl h100)])
    clear hT
    go_enter Tryd.func51, Tryd.ntmps51
    go_wp2_with fail
    go_ret2
    exact ⟨Below.refl _ _, .inl ⟨hp.out, rfl⟩⟩
  have hd100 : decide (100 < (s.size : Int)) = false := by simp; omega
  have HC := Lib.hid (Tryd.utf8_ValidString s w hs hT)
  rw [valid_all s] at HC
  clear hT
  cases hv : allRunes s with
  | false =>
    have hp : Hid (patP s = none) := Lib.hid (by unfold patP; rw [if_pos (.inr hv)])
    rw [hv] at HC
    clear hv
    go_enter Tryd.func51, Tryd.ntmps51
    go_wp2_with fail
    refine HC.out.mono ?_
    clear HC
    rintro e w2 ⟨rfl, b2⟩
    go_wp2_with fail
    go_ret2
    exact ⟨b2, .inl ⟨hp.out, rfl⟩⟩
  | true =>
    have HP : Hid (patP s = pt (rest s 0)) := Lib.hid (by unfold patP; rw [if_neg (by rw [hv]; simp; omega)])
    rw [hv] at HC
    clear hv
    have hcv := conv_runes s (by omega)
    have hRl := rest_length s 0
    go_enter Tryd.func51, Tryd.ntmps51
    go_wp2_with fail
    refine HC.out.mono ?_
    clear HC
    rintro e w2 ⟨rfl, b2⟩
    go_upto_region 5 with fail
    have hBr := rnW_below s w2
    have hrc := rnW_cell s w2
    have hsz := rnW_size s w2
    have hcap := rnC_le s w2
    have hB := b2.trans (hBr.mono b2.size)
    have hw2 := b2.size
    clear hcv hBr b2
    generalize rnW s w2 = W at *
    generalize rnC s w2 = cap at *
    generalize rest s 0 = RL at *
    obtain ⟨g5, hg5⟩ : ∃ g, w2.heap.size = g := ⟨_, rfl⟩
    rw [hg5] at hrc hsz hw2 ⊢
    obtain ⟨base, hbase⟩ : ∃ b, g5 + 1 = b := ⟨_, rfl⟩
    have hN : NwB 87 2 rsL w RL g5 base [] (.slice none 0 0) W := ⟨World.ownsRow_nil _ _ _ _, Hangs.nil_, fun e he => (by cases he), fun e he => (by cases he), hrc, hB, by omega, by omega, by omega⟩
    have HPT0 := Lib.hid (PtR.zero RL)
    clear hrc hsz hB hbase hw2 hg5
    go_wp2_with fail
    go_loopw [4, 6] (fun v4 v6 wr => ∃ (i : Nat) (L : List PS), v6 = .int .i64 i ∧ PtR RL i L ∧ NwB 87 2 rsL w RL g5 base L v4 wr) (fun _ v6 _ => RL.length - (RowKit.intOf v6).toNat)
    case atStart => exact ⟨0, [], rfl, HPT0.out, hN⟩
    case round =>
      clear hN
      obtain ⟨i, L, rfl, hpt, hN⟩ := hrel
      obtain ⟨A3, n3, c3, rfl⟩ := own_slice hN.own
      have HPT := Lib.hid hpt
      clear hpt
      have hL : L.length ≤ 100 := by have := HPT.out.1; have := HPT.out.2.1; omega
      have hi100 : i ≤ 100 := by have := HPT.out.1; omega
      by_cases hi : i < RL.length
      · have c0 : wr.cell? ⟨g5, i, none⟩ = some (.int .i32 (RL[i] : Int)) := hN.runes i _ (List.getElem?_eq_getElem hi)
        have hpa := pt_at hi
        obtain ⟨x, hx⟩ : ∃ x, RL[i] = x := ⟨_, rfl⟩
        rw [hx] at c0 hpa
        by_cases h42 : x = 42
        · subst h42
          rw [if_pos rfl] at hpa
          have HPT9 := Lib.hid (HPT.out.go 1 ⟨⟨3, []⟩, none, 0, 0⟩ (Nat.le_refl _) hi hpa)
          clear hpa hx
          go_wp2_with (at_builtin; refine append_rpart _ ⟨⟨3, []⟩, none, 0, 0⟩ _ rfl _ rfl _ _ rfl base (.slice A3 n3 c3) L rfl hN.own rfl (by omega) hN.base_le ?_; intro v6 w6 R6 g6 L6)
          obtain ⟨A6, n6, d6, rfl⟩ := own_slice R6
          have hN6 := (hN.alloc _).push (e := ⟨⟨3, []⟩, none, 0, 0⟩) Reads.none_ (fun ad h => (by cases h)) ⟨by decide, by decide, fun _ => rfl, fun _ => rfl⟩ R6 g6 L6
          go_roundw
          case rel => exact ⟨i + 1, L ++ [⟨⟨3, []⟩, none, 0, 0⟩], by go_num, HPT9.out, hN6⟩
          case measure => simp [RowKit.intOf]; omega
        by_cases h63 : x = 63
        · subst h63
          rw [if_neg (by decide), if_pos rfl] at hpa
          have HPT9 := Lib.hid (HPT.out.go 1 ⟨⟨2, []⟩, none, 0, 0⟩ (Nat.le_refl _) hi hpa)
          clear hpa hx h42
          go_wp2_with (at_builtin; refine append_rpart _ ⟨⟨2, []⟩, none, 0, 0⟩ _ rfl _ rfl _ _ rfl base (.slice A3 n3 c3) L rfl hN.own rfl (by omega) hN.base_le ?_; intro v6 w6 R6 g6 L6)
          obtain ⟨A6, n6, d6, rfl⟩ := own_slice R6
          have hN6 := (hN.alloc _).push (e := ⟨⟨2, []⟩, none, 0, 0⟩) Reads.none_ (fun ad h => (by cases h)) ⟨by decide, by decide, fun _ => rfl, fun _ => rfl⟩ R6 g6 L6
          go_roundw
          case rel => exact ⟨i + 1, L ++ [⟨⟨2, []⟩, none, 0, 0⟩], by go_num, HPT9.out, hN6⟩
          case measure => simp [RowKit.intOf]; omega
        have e42 : ((x : Int) == 42) = false := by simp; omega
        have e63 : ((x : Int) == 63) = false := by simp; omega
        by_cases h91 : x = 91
        · subst h91
          rw [if_neg (by decide), if_neg (by decide), if_pos rfl] at hpa
          have HPA := Lib.hid hpa
          have key : ∀ A' n' c', Reads wr wr.heap.size 1 A' n' ((RL.drop (i + 1)).map rv) → Calls Tryd.prog 71 #[.slice A' n' c'] wr (RcEnd wr (RL.drop (i + 1))) := fun A' n' c' h => ref38_class A' _ _ _ wr h (by have := runes_n h; simp at this; omega)
          have KEY := Lib.hid key
          have htl := hN.tail (i + 1) cap hi hcap
          have hlen : (RL.drop (i + 1)).length ≤ 100 := by simp; omega
          clear hpa hx key e42 e63 h42 h63
          have HTL := Lib.hid htl
          clear htl
          by_cases hck : cap = i + 1
          case' pos =>
            subst hck
            have hrd : Reads wr wr.heap.size 1 (some ⟨g5, 0, none⟩) 0 ((RL.drop (i + 1)).map rv) := by
              have h9 := HTL.out.1 rfl
              rwa [show RL.length - (i + 1) = 0 by omega] at h9
          case' neg => have hrd := HTL.out.2 hck
          all_goals
            go_wp2_with fail
            refine (KEY.out _ _ _ hrd).mono ?_
            rintro y w5 ⟨e, m, ok, rfl, hok, hyes, b5⟩
            have hN5 := hN.next b5
            have hyes := Lib.hid hyes
            obtain ⟨kI, hkI⟩ : ∃ k : Int, (e.p.kind : Int) = k := ⟨_, rfl⟩
            have hps : rsC e = #[.int .i64 kI, .slice e.A e.n e.c] := by unfold rsC; rw [hkI]
            have hpl : rsL e = [.int .i64 kI, .slice e.A e.n e.c] := by unfold rsL; rw [hkI]
            rw [hps]
            have HPL := Lib.hid hpl
            clear hps hpl hkI c0
            have BT := Blk.new w5 87 #[.int .i64 kI, .slice e.A e.n e.c]
            have hN7 := hN5.alloc (.cells #[.int .i64 kI, .slice e.A e.n e.c] 87)
            have kT := BT.cell
            cases hc : classP (RL.drop (i + 1)) with
            | none =>
              have hok' : ok = false := by rw [hok, hc]; rfl
              subst hok'
              have HF := Lib.hid (HPT.out.fail (by rw [HPA.out, hc]))
              clear hok hc
              go_wp2_with fail
              go_ret2
              exact ⟨hN7.bel, .inl ⟨by rw [HP.out, HF.out], rfl⟩⟩
            | some q =>
              obtain ⟨p, k⟩ := q
              have hok' : ok = true := by rw [hok, hc]; rfl
              subst hok'
              obtain ⟨rfl, rfl, hre, hrb⟩ := hyes.out p k hc
              have hle := classP_le hc
              have hcl := classP_len hc
              have hsn := sp_n hre
              have hdl : (RL.drop (i + 1)).length = RL.length - (i + 1) := by simp
              have hkm : i + (m + 1) ≤ RL.length := by omega
              have HPT9 := Lib.hid (HPT.out.go (m + 1) e (by omega) hkm (by rw [HPA.out, hc]))
              have HSM : e.small := ⟨by omega, by omega, fun h => by have := hle.2.2.1; omega, fun h => by have := hle.2.2.1; omega⟩
              have HRE := Lib.hid (((hre.alloc (Nat.le_refl _) (.cells #[.int .i64 kI, .slice e.A e.n e.c] 87)).alloc (by simp) (.cells #[.int .i64 kI, .slice e.A e.n e.c] 87)).more (B' := ((w5.alloc (.cells #[.int .i64 kI, .slice e.A e.n e.c] 87)).alloc (.cells #[.int .i64 kI, .slice e.A e.n e.c] 87)).heap.size) (by simp; omega))
              have HRB : ∀ ad, e.A = some ad → base ≤ ad.block ∧ ad.block < ((w5.alloc (.cells #[.int .i64 kI, .slice e.A e.n e.c] 87)).alloc (.cells #[.int .i64 kI, .slice e.A e.n e.c] 87)).heap.size ∧ (Value.slice A3 n3 c3).ownBlock ≠ some ad.block := fun ad ha => ⟨Nat.le_trans hN.base_le (hrb ad ha).1, by have := (hrb ad ha).2; simp; omega, fun e1 => by have := (World.ownsRow.lt hN.own _ e1).2; have := (hrb ad ha).1; omega⟩
              have HRB := Lib.hid HRB
              clear hok hc hre hrb hle hcl hsn hdl hyes
              go_wp2_with (at_builtin; refine append_rpart _ e #[.int .i64 kI, .slice e.A e.n e.c] HPL.out.symm _ rfl _ _ rfl base (.slice A3 n3 c3) L rfl hN7.own (by rw [World.size_alloc]; rfl) (by omega) hN7.base_le ?_; intro v6 w6 R6 g6 L6)
              obtain ⟨A6, n6, d6, rfl⟩ := own_slice R6
              have hN6 := (hN7.alloc (.cells #[.int .i64 kI, .slice e.A e.n e.c] 87)).push (e := e) HRE.out HRB.out HSM R6 g6 L6
              go_roundw
              case rel => exact ⟨i + (m + 1), L ++ [e], by go_num, HPT9.out, hN6⟩
              case measure => simp [RowKit.intOf]; omega
        have e91 : ((x : Int) == 91) = false := by simp; omega
        rw [if_neg h42, if_neg h63, if_neg h91] at hpa
        have HPT9 := Lib.hid (HPT.out.go 1 ⟨⟨0, [(x, x)]⟩, some ⟨wr.heap.size, 0, none⟩, 1, 1⟩ (Nat.le_refl _) hi hpa)
        have hbase := hN.base_le
        have hg5 := hN.g5_lt
        have q5 : ∀ p : Kept (· < base) wr.drew, p.v.cell? ⟨g5, i, none⟩ = some (.int .i32 (x : Int)) := fun p => p.h.cell hg5 c0
        clear hpa hx h42 h63 h91
        go_wp2_with fail
        clear c0
        refine wp_region_mixTk (M := []) (· < base) 14 [0, 1, 2, 3, 4, 5, 6, 7, 8, 9, 10, 11, 12, 13] (by kernel_rfl) (by kernel_rfl) ?_
        iterate 10 (refine mix_calmDk rfl rfl ?_; go_big_quiet_step (fail); refine wpQuiet_nil ?_)
        refine mix_loudDk rfl (by kernel_rfl) rfl ?_
        intro K1 hK1
        have HK := Lib.hid hK1
        clear hK1 q5
        go_wp2_with fail
        refine HK.out _ _ ((Stand.refl _ _).alloc _) ?_
        clear HK
        iterate 1 (refine mix_calmDk rfl rfl ?_; go_big_quiet_step (fail); refine wpQuiet_nil ?_)
        refine mix_loudDk rfl (by kernel_rfl) rfl ?_
        intro K1 hK1
        have HK := Lib.hid hK1
        clear hK1
        go_wp2_with fail
        refine HK.out _ _ ((Stand.refl _ _).alloc _) ?_
        clear HK
        refine mix_loudDk rfl (by kernel_rfl) rfl ?_
        intro K1 hK1
        have HK := Lib.hid hK1
        clear hK1
        have hNd : NwB 87 2 rsL w RL g5 base L (.slice A3 n3 c3) (wr.alloc (.cells #[.int .i32 (x : Int), .int .i32 (x : Int)] 79)).drew := (hN.alloc (.cells #[.int .i32 (x : Int), .int .i32 (x : Int)] 79)).drewN 1
        have hNe := hNd.alloc (.cells #[.int .i64 0, .slice (some ⟨wr.heap.size, 0, none⟩) 1 1] 87)
        have hrd : Reads ((wr.alloc (.cells #[.int .i32 (x : Int), .int .i32 (x : Int)] 79)).drew.alloc (.cells #[.int .i64 0, .slice (some ⟨wr.heap.size, 0, none⟩) 1 1] 87)) (wr.heap.size + 2) 2 (some ⟨wr.heap.size, 0, none⟩) 1 (sp2 (x, x)) := by
          have h8 := reads_new wr 79 2 #[.int .i32 (x : Int), .int .i32 (x : Int)] (sp2 (x, x)) rfl rfl
          exact ((h8.drew).alloc (Nat.le_refl _) _).more (by simp)
        go_wp2_with (at_builtin; (refine append_rpart (wr.alloc (.cells #[.int .i32 (x : Int), .int .i32 (x : Int)] 79)).drew ⟨⟨0, [(x, x)]⟩, some ⟨wr.heap.size, 0, none⟩, 1, 1⟩ #[.int .i64 0, .slice (some ⟨wr.heap.size, 0, none⟩) 1 1] rfl 87 rfl _ _ rfl base (.slice A3 n3 c3) L rfl hNd.own (by rw [show (wr.alloc (.cells #[.int .i32 (x : Int), .int .i32 (x : Int)] 79)).drew.heap.size = wr.heap.size + 1 from World.size_alloc _ _]; rfl) (by omega) hNd.base_le ?_); intro v6 w6 R6 g6 L6)
        obtain ⟨A6, n6, d6, rfl⟩ := own_slice R6
        have hN6 := hNe.push (e := ⟨⟨0, [(x, x)]⟩, some ⟨wr.heap.size, 0, none⟩, 1, 1⟩) (by have := hrd.more (B' := ((wr.alloc (.cells #[.int .i32 (x : Int), .int .i32 (x : Int)] 79)).drew.alloc (.cells #[.int .i64 0, .slice (some ⟨wr.heap.size, 0, none⟩) 1 1] 87)).heap.size) (by simp); exact this) (fun ad h => by injection h with h; subst h; exact ⟨hN.base_le, by simp; omega, fun e1 => by have := (World.ownsRow.lt hN.own _ e1).2; simp at this⟩) ⟨by show (1 : Nat) ≤ 1000000; omega, by show (0 : Nat) ≤ 3; omega, (fun h => by cases h), (fun h => by cases h)⟩ R6 g6 L6
        refine HK.out _ _ (Stand.of_grown g6 (fun k hk hlt => by have := (World.ownsRow.lt hNe.own k hk).1; omega)) ?_
        clear HK
        refine mix_endDk ?_
        go_wp2_with fail
        go_roundw
        case rel => exact ⟨i + 1, L ++ [⟨⟨0, [(x, x)]⟩, some ⟨wr.heap.size, 0, none⟩, 1, 1⟩], by go_num, HPT9.out, hN6⟩
        case measure => simp [RowKit.intOf]; omega
      · have HD := Lib.hid (HPT.out.done hi)
        obtain ⟨hn9, hp9⟩ := hN.pat
        obtain ⟨A8, c8, hv8, hnc8, _⟩ := own_form hN.own
        injection hv8 with _ h8 h9
        have HN9 := Lib.hid (And.intro hn9 (And.intro hp9 (show n3 ≤ c3 by omega)))
        clear hn9 hp9 hnc8 h8 h9
        go_wp2_with fail
        go_ret2
        exact ⟨hN.bel, .inr ⟨_, _, _, L, by rw [HP.out, HD.out], rfl, HN9.out.1, HN9.out.2.2, HN9.out.2.1⟩⟩

set_option maxRecDepth 100000 in
theorem ref38_Right (s : ByteArray) (hs : s.size ≤ 9223372036854775807) (w : World) (hT : Tabs w) : Calls Tryd.prog 17 #[.string s] w fun x w' => x = .returned (.bool (patP s).isSome) ∧ Below w.heap.size w w' := by
  have HC := Lib.hid (ref38_parts s hs w hT)
  clear hT
  obtain ⟨R, hR⟩ : ∃ R, (patP s).isSome = R := ⟨_, rfl⟩
  have HRR := Lib.hid hR
  rw [hR]
  clear hR
  go_enter Tryd.func17, Tryd.ntmps17
  go_wp2_with fail
  refine HC.out.mono ?_
  rintro y w2 ⟨b2, ⟨hp, rfl⟩ | ⟨A, n, c, L, hp, rfl, _⟩⟩
  · have H : Hid (R = false) := Lib.hid (by rw [← HRR.out, hp]; rfl)
    clear hp
    go_wp2_with fail
    go_ret
    exact ⟨by rw [H.out]; rfl, b2⟩
  · have H : Hid (R = true) := Lib.hid (by rw [← HRR.out, hp]; rfl)
    clear hp
    go_wp2_with fail
    go_ret
    exact ⟨by rw [H.out]; rfl, b2⟩
end Go.Proofs.YtedegdojbhegdaaDoor
