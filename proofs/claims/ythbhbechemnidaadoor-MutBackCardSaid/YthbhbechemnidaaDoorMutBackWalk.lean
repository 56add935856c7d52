/- The walk of the law MutBack: it returns true, and nothing that was there ahead of the call has turned. -/
import Derived.Test.YthbhbechemnidaaDoorMutU
import Derived.Test.YthbhbechemnidaaDoorMutR
import Derived.Test.YthbhbechemnidaaDoorMutK
import Derived.Test.YthbhbechemnidaaDoorMutL
import Derived.Test.YthbhbechemnidaaDoorRdrAt
import Derived.Test.YthbhbechemnidaaDoorOpenMut
namespace Go.Proofs.YthbhbechemnidaaDoor
open Go.RowKit Go.Sort

theorem cmpI_selfB (a : Int) : cmpI a a = 0 := by unfold cmpI; simp
theorem cmp3_selfB (s : Int × Int × Int) : cmp3 s s = 0 := by unfold cmp3 cmpS or3; simp [cmpI_selfB]
theorem cmpR_selfB : ∀ l : List (Int × Int × Int), cmpR l l = 0
  | [] => rfl
  | a :: l => by
    show (if cmp3 a a = 0 then cmpR l l else cmp3 a a) = 0
    rw [if_pos (cmp3_selfB a), cmpR_selfB l]
theorem cmpM_selfB (m : Mut) : cmpM m m = 0 := by
  unfold cmpM
  rw [cmp3_selfB, cmpI_selfB, cmpI_selfB, (cmpT_zero _ _).2 rfl, (cmpT_zero _ _).2 rfl, (cmpT_zero _ _).2 rfl, cmpI_selfB, cmpR_selfB]
  rfl
theorem sameM_selfB (M : List Mut) : sameM M M = true := by
  unfold sameM
  rw [decide_eq_true rfl, Bool.true_and, List.all_eq_true]
  intro p hp
  have e : p.1 = p.2 := by
    obtain ⟨i, hi, rfl⟩ := List.mem_iff_getElem.1 hp
    simp
  rw [e, cmpM_selfB]
  rfl
theorem muti_ofB {m : Mut} {n : Nat} (hw : MutW m) (hg : great7 m n = false) (hl : m.ov.length = n) : MutI m := by
  obtain ⟨z1, z2, z3, z4⟩ := great7_no hg
  obtain ⟨⟨a, b, c, d, e⟩, _⟩ := hw
  exact ⟨a.2, b.2, c.2, ⟨d.1.2, d.2.1.2, d.2.2.2⟩, fun s hs => ⟨(e s hs).1.2, (e s hs).2.1.2, (e s hs).2.2.2⟩, by omega, by omega, by omega, by omega⟩
def MkOk (e : MutS) : Prop := great7 e.m e.n = false ∧ mrtB e.m = true
theorem rdM_ofB {w : World} {A : Option Addr} {n : Nat} {L : List MutS} (hr : Reads w w.heap.size 10 A n (L.flatMap mutL)) (hq : ∀ e ∈ L, MutQ w e) (hk : ∀ e ∈ L, e.n ≤ 1000000000) : RdM w A n (L.map (·.m)) :=
  ⟨L, rfl, hr, fun e he => ⟨(hq e he).2.2.2.1, fun _ _ => by simp⟩, fun e he => ⟨hk e he, (hq e he).2.2.1⟩⟩
theorem wtext_small (s : ByteArray) (k : Nat) (hk : k ≤ 1000) (h : s.size ≤ k) : (wtext (bs s)).length ≤ 9 + k := by
  have := wput_length (bs s).length (by rw [bs_length]; omega)
  unfold wtext
  rw [List.length_append]
  have := bs_length s
  omega
theorem mput_small {m : Mut} (h : MutRt m) : (mrest m).length ≤ 1000 ∧ (mput m).length ≤ 1100 := by
  have i := mutI_of h
  have n := mutN_of h
  have := wputI_len m.tab i.tab
  have := wputI_len m.kind i.kind
  have := wtext_small m.en 24 (by omega) n.en
  have := wtext_small m.val 64 (by omega) n.val
  have := wtext_small m.key 24 (by omega) (key_size h.2.1)
  have := wputI_len m.exp i.exp
  have := sput_len m.at_ i.at_.1 i.at_.2.1 i.at_.2.2
  have := wputI_len (m.ov.length : Int) (by have := i.len; omega)
  have := sputs_len m.ov i.ov
  have := n.len
  have e : (mrest m).length ≤ 1000 := by
    unfold mrest mhead
    simp only [List.length_append]
    omega
  refine ⟨e, ?_⟩
  unfold mput
  rw [List.length_append]
  omega
theorem mall_small (M : List Mut) (h : ∀ m ∈ M, MutRt m) (hl : M.length ≤ 50) : (mall M).length ≤ 60000 := by
  have h1 : ∀ M : List Mut, (∀ m ∈ M, MutRt m) → (M.flatMap mput).length ≤ 1100 * M.length := by
    intro M
    induction M with
    | nil => intro _; simp
    | cons s t ih =>
      intro h
      have := (mput_small (h s (List.mem_cons_self ..))).2
      have := ih fun x hx => h x (List.mem_cons_of_mem _ hx)
      simp only [List.flatMap_cons, List.length_append, List.length_cons]
      omega
  have := h1 M h
  have := wputI_len (M.length : Int) (by omega)
  unfold mall
  rw [List.length_append]
  omega
theorem pList_many (M : List Mut) (r : List UInt8) (most : Int) (hl : M.length ≤ 1000000) (hm : most < (M.length : Int)) : (pList most (mall M ++ r) 0 0).2.2 = 31 := by
  have e : pCnt most (mall M ++ r) 0 0 = (0, 0, 31) := by
    unfold pCnt rCount
    rw [List.drop_zero]
    have := rNum_wput (M.length : Int).toNat (M.flatMap mput ++ r) (by omega)
    unfold mall wputI
    rw [List.append_assoc, this, if_pos ⟨rfl, by dsimp only; omega⟩]
    rfl
  unfold pList
  rw [pThen_eq e]
  rfl

def BkRel (w : World) (L : List MutS) (n : Nat) (v5 : Value) (wr : World) : Prop :=
  ∃ k : Nat, v5 = .int .i64 k ∧ k ≤ n ∧ (∀ (j : Nat) (e : MutS), j < k → L[j]? = some e → MkOk e) ∧ Below w.heap.size w wr

set_option maxRecDepth 100000 in
set_option maxHeartbeats 8000000 in
theorem mut_back_walk (w : World) (hT : Tabs w) (A : Option Addr) (n c : Nat) (L : List MutS) (_ : n ≤ c) (hc : c ≤ maxLen) (_ : A = none → c = 0) (hl : L.length = n) (hq : ∀ e ∈ L, MutQ w e) (hr : Reads w w.heap.size 10 A n (L.flatMap mutL))
    (A0 : Option Addr) (n0 c0 : Nat) (lb : List UInt8) (_ : n0 ≤ c0) (hc0 : c0 ≤ maxLen) (hl0 : lb.length = n0) (hr0 : Reads w w.heap.size 1 A0 n0 (lb.map vb)) (_ : A0 = none → c0 = 0) (most : Int) :
    Calls Tryd.prog 8 #[.slice A n c, .slice A0 n0 c0, .int .i64 most] w fun e w' => e = .returned (.bool true) ∧ Below w.heap.size w w' := by
  have hn : n ≤ 9223372036854775807 := by unfold maxLen at hc; omega
  have hn0 : n0 ≤ 9223372036854775807 := by unfold maxLen at hc0; omega
  by_cases h50 : 50 < n
  · have hd : decide (50 < (n : Int)) = true := by simp; omega
    clear h50 hr0 hr hq hl hl0 hT
    go_enter Tryd.func8, Tryd.ntmps8
    go_wp2_with fail
    go_ret
    exact ⟨rfl, Below.refl _ _⟩
  have hd : decide (50 < (n : Int)) = false := by simp; omega
  by_cases h1000 : 1000 < n0
  · have hd2 : decide (1000 < (n0 : Int)) = true := by simp; omega
    clear h50 h1000 hr0 hr hq hl hl0 hT
    go_enter Tryd.func8, Tryd.ntmps8
    go_wp2_with fail
    go_ret
    exact ⟨rfl, Below.refl _ _⟩
  have hd2 : decide (1000 < (n0 : Int)) = false := by simp; omega
  have hs50 : n ≤ 50 := by omega
  have hs1000 : n0 ≤ 1000 := by omega
  have HT := Lib.hid hT
  have HR0 := Lib.hid hr0
  have HL0 := Lib.hid hl0
  have HR := Lib.hid hr
  have HL := Lib.hid hl
  have HQ := Lib.hid hq
  have hll0 : lb.length ≤ 1000 := by omega
  clear hT hr0 hl0 hr hl hq h50 h1000 hn hn0 hc hc0
  have hB := Below.refl w.heap.size w
  go_enter Tryd.func8, Tryd.ntmps8
  go_wp2_with fail
  clear hd hd2
  go_loopw [7] (fun v7 wr => BkRel w L n v7 wr) (fun v7 _ => n - (RowKit.intOf v7).toNat)
  case atStart => exact ⟨0, rfl, Nat.zero_le _, fun j e h => absurd h (Nat.not_lt_zero _), hB⟩
  case round =>
    clear hB
    obtain ⟨k, rfl, hk, hall, hB⟩ := hrel
    have HALL := Lib.hid hall
    clear hall
    by_cases hkn : k < n
    · have hkL : k < L.length := by have := HL.out; omega
      obtain ⟨b, off, hA, hb, hc⟩ := mut_at HR.out hkL
      subst hA
      obtain ⟨x, hx⟩ : ∃ x, L[k]'hkL = x := ⟨_, rfl⟩
      have hqx := HQ.out _ (List.getElem_mem hkL)
      have hgx : L[k]? = some L[k] := List.getElem?_eq_getElem hkL
      rw [hx] at hqx hc hgx
      have HQX := Lib.hid hqx
      have HGX := Lib.hid hgx
      have HC := Lib.hid hc
      have hxl := stamps_n hqx.2.2.2.1
      have HXL := Lib.hid hxl
      clear hqx hgx hx hxl
      obtain ⟨gq, hg⟩ : ∃ g, great7 x.m x.n = g := ⟨_, rfl⟩
      obtain ⟨rq, hrq⟩ : ∃ g, mrtB x.m = g := ⟨_, rfl⟩
      have hrx : Reads wr w.heap.size 3 x.A x.n (x.m.ov.flatMap sc) := HQX.out.2.2.2.1.below hB
      have d0 : wr.cell? ⟨b, off + k * 10, none⟩ = some (.int .i64 x.m.tab) := (World.cell?_of_block (hB.block b hb)).trans (HC.out 0 _ (by decide) rfl)
      have d1 : wr.cell? ⟨b, off + k * 10 + 1, none⟩ = some (.int .i64 x.m.kind) := (World.cell?_of_block (hB.block b hb)).trans (HC.out 1 _ (by decide) rfl)
      have d2 : wr.cell? ⟨b, off + k * 10 + 2, none⟩ = some (.string x.m.key) := (World.cell?_of_block (hB.block b hb)).trans (HC.out 2 _ (by decide) rfl)
      have d3 : wr.cell? ⟨b, off + k * 10 + 3, none⟩ = some (.string x.m.en) := (World.cell?_of_block (hB.block b hb)).trans (HC.out 3 _ (by decide) rfl)
      have d4 : wr.cell? ⟨b, off + k * 10 + 4, none⟩ = some (.string x.m.val) := (World.cell?_of_block (hB.block b hb)).trans (HC.out 4 _ (by decide) rfl)
      have d5 : wr.cell? ⟨b, off + k * 10 + 5, none⟩ = some (.int .i64 x.m.exp) := (World.cell?_of_block (hB.block b hb)).trans (HC.out 5 _ (by decide) rfl)
      have d6 : wr.cell? ⟨b, off + k * 10 + 6, none⟩ = some (.int .i64 x.m.at_.1) := (World.cell?_of_block (hB.block b hb)).trans (HC.out 6 _ (by decide) rfl)
      have d7 : wr.cell? ⟨b, off + k * 10 + 7, none⟩ = some (.int .i64 x.m.at_.2.1) := (World.cell?_of_block (hB.block b hb)).trans (HC.out 7 _ (by decide) rfl)
      have d8 : wr.cell? ⟨b, off + k * 10 + 8, none⟩ = some (.int .i64 x.m.at_.2.2) := (World.cell?_of_block (hB.block b hb)).trans (HC.out 8 _ (by decide) rfl)
      have d9 : wr.cell? ⟨b, off + k * 10 + 9, none⟩ = some (.slice x.A x.n x.c) := (World.cell?_of_block (hB.block b hb)).trans (HC.out 9 _ (by decide) rfl)
      clear hc
      have CG := Lib.hid (law07_Great x.m x.A x.n x.c wr)
      rw [hg] at CG
      have HG := Lib.hid hg
      have HRQ := Lib.hid hrq
      clear hg hrq
      go_wp2_with fail
      refine CG.out.mono ?_
      clear CG
      rintro y w1 ⟨rfl, bX⟩
      replace hrx := hrx.below (bX.mono hB.size)
      replace hB := hB.trans (bX.mono hB.size)
      clear bX
      cases gq
      case true =>
        go_wp2_with fail
        go_ret
        exact ⟨rfl, hB⟩
      have d0 : w1.cell? ⟨b, off + k * 10, none⟩ = some (.int .i64 x.m.tab) := (World.cell?_of_block (hB.block b hb)).trans (HC.out 0 _ (by decide) rfl)
      have d1 : w1.cell? ⟨b, off + k * 10 + 1, none⟩ = some (.int .i64 x.m.kind) := (World.cell?_of_block (hB.block b hb)).trans (HC.out 1 _ (by decide) rfl)
      have d2 : w1.cell? ⟨b, off + k * 10 + 2, none⟩ = some (.string x.m.key) := (World.cell?_of_block (hB.block b hb)).trans (HC.out 2 _ (by decide) rfl)
      have d3 : w1.cell? ⟨b, off + k * 10 + 3, none⟩ = some (.string x.m.en) := (World.cell?_of_block (hB.block b hb)).trans (HC.out 3 _ (by decide) rfl)
      have d4 : w1.cell? ⟨b, off + k * 10 + 4, none⟩ = some (.string x.m.val) := (World.cell?_of_block (hB.block b hb)).trans (HC.out 4 _ (by decide) rfl)
      have d5 : w1.cell? ⟨b, off + k * 10 + 5, none⟩ = some (.int .i64 x.m.exp) := (World.cell?_of_block (hB.block b hb)).trans (HC.out 5 _ (by decide) rfl)
      have d6 : w1.cell? ⟨b, off + k * 10 + 6, none⟩ = some (.int .i64 x.m.at_.1) := (World.cell?_of_block (hB.block b hb)).trans (HC.out 6 _ (by decide) rfl)
      have d7 : w1.cell? ⟨b, off + k * 10 + 7, none⟩ = some (.int .i64 x.m.at_.2.1) := (World.cell?_of_block (hB.block b hb)).trans (HC.out 7 _ (by decide) rfl)
      have d8 : w1.cell? ⟨b, off + k * 10 + 8, none⟩ = some (.int .i64 x.m.at_.2.2) := (World.cell?_of_block (hB.block b hb)).trans (HC.out 8 _ (by decide) rfl)
      have d9 : w1.cell? ⟨b, off + k * 10 + 9, none⟩ = some (.slice x.A x.n x.c) := (World.cell?_of_block (hB.block b hb)).trans (HC.out 9 _ (by decide) rfl)
      have HI := Lib.hid (muti_ofB HQX.out.2.2.2.2 HG.out HXL.out)
      obtain ⟨z1, z2, z3, z4⟩ := great7_no HG.out
      have CR := Lib.hid (ref07_Right x.m x.A x.n x.c w1 (HT.out.in_ (Nat.le_refl _) hB) (hrx.more hB.size) (by omega) (by omega) (by omega) (by unfold maxLen; omega))
      rw [HRQ.out] at CR
      clear z1 z2 z3 z4
      go_wp2_with fail
      refine CR.out.mono ?_
      clear CR
      rintro y w2 ⟨rfl, bX⟩
      replace hrx := hrx.below (bX.mono hB.size)
      replace hB := hB.trans (bX.mono hB.size)
      clear bX
      cases rq
      case false =>
        go_wp2_with fail
        go_ret
        exact ⟨rfl, hB⟩
      have HN : Hid (∀ (j : Nat) (e : MutS), j < k + 1 → L[j]? = some e → MkOk e) := Lib.hid (fun j e hj he => by
        rcases Nat.lt_or_ge j k with h | h
        · exact HALL.out j e h he
        · have e1 : j = k := by omega
          subst e1
          rw [HGX.out] at he
          injection he with he
          subst he
          exact ⟨HG.out, HRQ.out⟩)
      clear hrx d0 d1 d2 d3 d4 d5 d6 d7 d8 d9
      go_wp2_with fail
      go_roundw
      case rel => exact ⟨k + 1, by go_num, by omega, HN.out, hB⟩
      case measure => simp [RowKit.intOf]; omega
    · have hkn : n = k := by omega
      subst hkn
      have HOK : Hid (∀ e ∈ L, MkOk e) := Lib.hid (fun e he => by
        obtain ⟨j, hj, rfl⟩ := List.mem_iff_getElem.1 he
        exact HALL.out j _ (by have := HL.out; omega) (List.getElem?_eq_getElem hj))
      clear HALL
      go_wp2_with fail
      go_loopw [8, 9] (fun v8 _ wr => ∃ k : Nat, v8 = .int .i64 k ∧ k ≤ L.length ∧ Below w.heap.size w wr) (fun v8 _ _ => L.length - (RowKit.intOf v8).toNat)
      case atStart => exact ⟨0, rfl, Nat.zero_le _, hB⟩
      case round =>
        clear hB
        obtain ⟨k, rfl, hk, hB⟩ := hrel
        by_cases hkL : k < L.length
        · have hkn : k < n := by rw [← HL.out]; exact hkL
          obtain ⟨b, off, hA, hb, hc⟩ := mut_at HR.out hkL
          subst hA
          obtain ⟨x, hx⟩ : ∃ x, L[k]'hkL = x := ⟨_, rfl⟩
          have hqx := HQ.out _ (List.getElem_mem hkL)
          have hox := HOK.out _ (List.getElem_mem hkL)
          rw [hx] at hqx hc hox
          have HQX := Lib.hid hqx
          have HOX := Lib.hid hox
          have HC := Lib.hid hc
          have hxl := stamps_n hqx.2.2.2.1
          have HXL := Lib.hid hxl
          have HMR := Lib.hid (mrt_of hox.2)
          have hms := (mput_small HMR.out).1
          have hmk := key_size HMR.out.2.1
          obtain ⟨z1, z2, z3, z4⟩ := great7_no hox.1
          clear hqx hox hx hxl
          have hrx : Reads wr w.heap.size 3 x.A x.n (x.m.ov.flatMap sc) := HQX.out.2.2.2.1.below hB
          have d0 : wr.cell? ⟨b, off + k * 10, none⟩ = some (.int .i64 x.m.tab) := (World.cell?_of_block (hB.block b hb)).trans (HC.out 0 _ (by decide) rfl)
          have d1 : wr.cell? ⟨b, off + k * 10 + 1, none⟩ = some (.int .i64 x.m.kind) := (World.cell?_of_block (hB.block b hb)).trans (HC.out 1 _ (by decide) rfl)
          have d2 : wr.cell? ⟨b, off + k * 10 + 2, none⟩ = some (.string x.m.key) := (World.cell?_of_block (hB.block b hb)).trans (HC.out 2 _ (by decide) rfl)
          have d3 : wr.cell? ⟨b, off + k * 10 + 3, none⟩ = some (.string x.m.en) := (World.cell?_of_block (hB.block b hb)).trans (HC.out 3 _ (by decide) rfl)
          have d4 : wr.cell? ⟨b, off + k * 10 + 4, none⟩ = some (.string x.m.val) := (World.cell?_of_block (hB.block b hb)).trans (HC.out 4 _ (by decide) rfl)
          have d5 : wr.cell? ⟨b, off + k * 10 + 5, none⟩ = some (.int .i64 x.m.exp) := (World.cell?_of_block (hB.block b hb)).trans (HC.out 5 _ (by decide) rfl)
          have d6 : wr.cell? ⟨b, off + k * 10 + 6, none⟩ = some (.int .i64 x.m.at_.1) := (World.cell?_of_block (hB.block b hb)).trans (HC.out 6 _ (by decide) rfl)
          have d7 : wr.cell? ⟨b, off + k * 10 + 7, none⟩ = some (.int .i64 x.m.at_.2.1) := (World.cell?_of_block (hB.block b hb)).trans (HC.out 7 _ (by decide) rfl)
          have d8 : wr.cell? ⟨b, off + k * 10 + 8, none⟩ = some (.int .i64 x.m.at_.2.2) := (World.cell?_of_block (hB.block b hb)).trans (HC.out 8 _ (by decide) rfl)
          have d9 : wr.cell? ⟨b, off + k * 10 + 9, none⟩ = some (.slice x.A x.n x.c) := (World.cell?_of_block (hB.block b hb)).trans (HC.out 9 _ (by decide) rfl)
          clear hc
          go_wp2_with fail
          refine (mut_Rest wr w.heap.size (.slice none 0 0) [] x.m x.A x.n x.c (Own.nil_ _ _) hB.size hrx (mutI_of HMR.out) (by simp)).mono ?_
          rintro y u1 ⟨v1, rfl, O1, G1, -⟩
          rw [List.nil_append] at O1
          have b1 : Below w.heap.size wr u1 := below_of_grown (Below.refl _ _) hB.size G1 (fun q hq => by cases hq)
          replace hrx := hrx.below b1
          replace hB := hB.trans b1
          clear b1 G1 d0 d1 d2 d3 d4 d5 d6 d7 d8 d9
          have hbs := hB.size
          have HR01 := Lib.hid ((HR0.out.below hB).more hB.size)
          go_wp2_with (at_builtin; go_must (refine append_bytes u1 rfl _ _ rfl w.heap.size v1 (mrest x.m) rfl O1 A0 n0 c0 lb rfl HR01.out (by omega) hbs ?_); intro v2 u2 O2 G2 _)
          replace hrx := hrx.below (below_of_grown (Below.refl _ _) hB.size G2 (fun q hq => (O1.lt q hq).1))
          replace hB := Below.grown hB G2 hB.size (fun q hq => (O1.lt q hq).1)
          clear O1 G2 HR01
          obtain ⟨A2, c2, rfl, hc2, R2⟩ := O2.reads
          have hll : (mrest x.m ++ lb).length ≤ 3000 := by rw [List.length_append]; omega
          obtain ⟨n2, hn2⟩ : ∃ n2, (mrest x.m ++ lb).length = n2 := ⟨_, rfl⟩
          have HN2 := Lib.hid hn2
          rw [hn2] at R2 hc2 hll ⊢
          clear hn2
          refine (wire_New A2 n2 c2 u2).mono ?_
          rintro y u3 ⟨rfl, rfl⟩
          have R : Rd (u2.alloc (.cells #[.slice A2 n2 c2, .int .i64 0, .int .i64 0] 103)) u2.heap.size A2 n2 c2 (mrest x.m ++ lb) 0 0 := ⟨Blk.new _ _ _, R2.alloc (Nat.le_refl _) _, Nat.zero_le _, by omega, hc2⟩
          have hgw := hB.size
          replace hrx := hrx.alloc hB.size (.cells #[.slice A2 n2 c2, .int .i64 0, .int .i64 0] 103)
          replace hB := hB.alloc hB.size (.cells #[.slice A2 n2 c2, .int .i64 0, .int .i64 0] 103)
          clear O2 R2 hbs
          generalize u2.alloc (.cells #[.slice A2 n2 c2, .int .i64 0, .int .i64 0] 103) = W1 at *
          generalize u2.heap.size = g at *
          have e9 := whole_with x.m HMR.out [] lb
          rw [List.nil_append, List.length_nil, Nat.zero_add] at e9
          have hleft : n2 - (mrest x.m).length = n0 := by rw [← HN2.out, List.length_append, HL0.out]; omega
          have HLEFT := Lib.hid hleft
          have HE := Lib.hid e9
          clear e9 hleft
          go_upto_region 12 with fail
          replace R := R.drewN 1
          replace hB := below_drewN hB 1
          replace hrx := hrx.drewN 1
          change Below w.heap.size w W1.drew at hB
          change Reads W1.drew w.heap.size 3 x.A x.n (x.m.ov.flatMap sc) at hrx
          change Rd W1.drew g A2 n2 c2 (mrest x.m ++ lb) 0 0 at R
          have C1 := Lib.hid (mut_With W1.drew (HT.out.in_ (Nat.le_refl _) hB) g A2 n2 c2 (mrest x.m ++ lb) 0 0 x.m.key (by unfold maxLen; omega) R)
          rw [HE.out] at C1
          have e0 : ∀ p : Kept (· < w.heap.size) W1.drew, p.v.cell? ⟨b, off + k * 10, none⟩ = some (.int .i64 x.m.tab) := fun p => p.h.cell hb ((World.cell?_of_block (hB.block b hb)).trans (HC.out 0 _ (by decide) rfl))
          have e1 : ∀ p : Kept (· < w.heap.size) W1.drew, p.v.cell? ⟨b, off + k * 10 + 1, none⟩ = some (.int .i64 x.m.kind) := fun p => p.h.cell hb ((World.cell?_of_block (hB.block b hb)).trans (HC.out 1 _ (by decide) rfl))
          have e2 : ∀ p : Kept (· < w.heap.size) W1.drew, p.v.cell? ⟨b, off + k * 10 + 2, none⟩ = some (.string x.m.key) := fun p => p.h.cell hb ((World.cell?_of_block (hB.block b hb)).trans (HC.out 2 _ (by decide) rfl))
          have e3 : ∀ p : Kept (· < w.heap.size) W1.drew, p.v.cell? ⟨b, off + k * 10 + 3, none⟩ = some (.string x.m.en) := fun p => p.h.cell hb ((World.cell?_of_block (hB.block b hb)).trans (HC.out 3 _ (by decide) rfl))
          have e4 : ∀ p : Kept (· < w.heap.size) W1.drew, p.v.cell? ⟨b, off + k * 10 + 4, none⟩ = some (.string x.m.val) := fun p => p.h.cell hb ((World.cell?_of_block (hB.block b hb)).trans (HC.out 4 _ (by decide) rfl))
          have e5 : ∀ p : Kept (· < w.heap.size) W1.drew, p.v.cell? ⟨b, off + k * 10 + 5, none⟩ = some (.int .i64 x.m.exp) := fun p => p.h.cell hb ((World.cell?_of_block (hB.block b hb)).trans (HC.out 5 _ (by decide) rfl))
          have e6 : ∀ p : Kept (· < w.heap.size) W1.drew, p.v.cell? ⟨b, off + k * 10 + 6, none⟩ = some (.int .i64 x.m.at_.1) := fun p => p.h.cell hb ((World.cell?_of_block (hB.block b hb)).trans (HC.out 6 _ (by decide) rfl))
          have e7 : ∀ p : Kept (· < w.heap.size) W1.drew, p.v.cell? ⟨b, off + k * 10 + 7, none⟩ = some (.int .i64 x.m.at_.2.1) := fun p => p.h.cell hb ((World.cell?_of_block (hB.block b hb)).trans (HC.out 7 _ (by decide) rfl))
          have e8 : ∀ p : Kept (· < w.heap.size) W1.drew, p.v.cell? ⟨b, off + k * 10 + 8, none⟩ = some (.int .i64 x.m.at_.2.2) := fun p => p.h.cell hb ((World.cell?_of_block (hB.block b hb)).trans (HC.out 8 _ (by decide) rfl))
          have e9 : ∀ p : Kept (· < w.heap.size) W1.drew, p.v.cell? ⟨b, off + k * 10 + 9, none⟩ = some (.slice x.A x.n x.c) := fun p => p.h.cell hb ((World.cell?_of_block (hB.block b hb)).trans (HC.out 9 _ (by decide) rfl))
          refine wp_region_mixDk (M := []) (· < w.heap.size) [0, 1, 2, 3, 4, 5, 6, 7, 8, 10, 11, 12, 13, 9, 14, 15, 16, 17, 18, 19, 20, 21, 22, 23, 25, 26, 24, 27, 28] (by kernel_rfl) (by kernel_rfl) ?_
          iterate 13 (refine mix_calmDk rfl rfl ?_; go_big_quiet_step (fail); refine wpQuiet_nil ?_)
          refine mix_loudDk rfl (by kernel_rfl) rfl ?_
          intro K1 hK1
          have HK := Lib.hid hK1
          clear hK1 e0 e1 e2 e3 e4 e5 e6 e7 e8 e9
          go_wp2_with fail
          refine (C1.out).mono ?_
          rintro x u4 ⟨v4, rfl, O4, R, G4⟩
          have HS9 := Lib.hid (Stand.of_grown (S := (· < w.heap.size)) G4 (fun q hq hs => by injection hq with hq; omega))
          replace hrx := hrx.below (Below.grown (Below.refl _ _) G4 hB.size (fun q hq => by injection hq with hq; omega))
          replace hB := Below.grown hB G4 hB.size (fun q hq => by injection hq with hq; omega)
          obtain ⟨A4, c4, rfl, -, -, -⟩ := own_form O4
          have R4 := Lib.hid (Reads.of_own O4.own)
          have HR4 := Lib.hid R
          clear G4 O4 C1 R
          go_wp2_with fail
          refine HK.out _ _ (HS9.out) ?_
          clear HK
          clear HS9
          have CC := Lib.hid (ref07_Compare x.m x.m A4 x.A x.m.ov.length c4 x.n x.c u4 R4.out (hrx.more hB.size) (by rw [HXL.out]; omega))
          rw [cmpM_selfB] at CC
          refine mix_loudDk rfl (by kernel_rfl) rfl ?_
          intro K1 hK1
          have HK := Lib.hid hK1
          clear hK1 
          go_wp2_with fail
          refine (CC.out).mono ?_
          rintro x u5 ⟨rfl, b5⟩
          have HS9 := Lib.hid (Stand.of_below (S := (· < w.heap.size)) b5)
          replace hB := hB.trans (b5.mono hB.size)
          have HR5 := Lib.hid (HR4.out.below b5)
          clear b5 CC R4 HR4
          go_wp2_with fail
          refine HK.out _ _ (HS9.out) ?_
          clear HK
          clear HS9
          iterate 4 (refine mix_calmDk rfl rfl ?_; go_big_quiet_step (fail); refine wpQuiet_nil ?_)
          refine mix_loudDk rfl (by kernel_rfl) rfl ?_
          intro K1 hK1
          have HK := Lib.hid hK1
          clear hK1 
          go_wp2_with fail
          refine (reader_Why u5 g A2 n2 c2 (mrest x.m ++ lb) _ 0 HR5.out).mono ?_
          rintro x u6 ⟨rfl, rfl⟩
          go_wp2_with fail
          refine HK.out _ _ (Stand.refl _ _) ?_
          clear HK
          iterate 6 (refine mix_calmDk rfl rfl ?_; go_big_quiet_step (fail); refine wpQuiet_nil ?_)
          have hLf := reader_Left u5 g A2 n2 c2 (mrest x.m ++ lb) _ 0 HR5.out
          rw [HLEFT.out] at hLf
          have CL := Lib.hid hLf
          clear hLf
          refine mix_loudDk rfl (by kernel_rfl) rfl ?_
          intro K1 hK1
          have HK := Lib.hid hK1
          clear hK1 
          go_wp2_with fail
          refine (CL.out).mono ?_
          rintro x u6 ⟨rfl, q6, rfl⟩
          have HS9 := Lib.hid (Stand.of_below (S := (· < w.heap.size)) (below_drewN (Below.refl u5.heap.size u5) q6))
          replace hB := below_drewN hB q6
          clear CL
          go_wp2_with fail
          refine HK.out _ _ (HS9.out) ?_
          clear HK
          clear HS9
          iterate 2 (refine mix_calmDk rfl rfl ?_; go_big_quiet_step (fail); refine wpQuiet_nil ?_)
          refine mix_endDk ?_
          go_wp2_with fail
          go_roundw
          case rel => exact ⟨k + 1, by go_num, by omega, hB⟩
          case measure => simp [RowKit.intOf]; omega
        · have hkn : ¬ k < n := by rw [← HL.out]; exact hkL
          have HOKt := HOK.out
          have RM := Lib.hid (rdM_ofB HR.out HQ.out (fun e he => by have := great7_no (HOKt e he).1; omega))
          have HRT : Hid (∀ m ∈ L.map (·.m), MutRt m) := Lib.hid (fun m hm => by
            obtain ⟨e, he, rfl⟩ := List.mem_map.1 hm
            exact mrt_of (HOKt e he).2)
          have HIM : Hid (∀ m ∈ L.map (·.m), MutI m) := Lib.hid (fun m hm => mutI_of (HRT.out m hm))
          have hml := mall_small (L.map (·.m)) HRT.out (by rw [List.length_map, HL.out]; omega)
          have hMl : (L.map (·.m)).length = n := by rw [List.length_map, HL.out]
          have HML := Lib.hid hMl
          obtain ⟨M, hM⟩ : ∃ M, L.map (·.m) = M := ⟨_, rfl⟩
          rw [hM] at RM HRT HIM hml HML
          clear HOKt hMl hM
          go_wp2_with fail
          refine (mut_All w wr w.heap.size (.slice none 0 0) [] A n c M (Own.nil_ _ _) hB.size (Nat.le_refl _) hB RM.out HIM.out (by omega) (by simp)).mono ?_
          rintro y u1 ⟨v1, rfl, O1, G1, -⟩
          rw [List.nil_append] at O1
          replace hB := Below.grown hB G1 hB.size (fun q hq => by cases hq)
          clear G1
          obtain ⟨A1, c1, rfl, hc1, -⟩ := O1.reads
          obtain ⟨n1, hn1⟩ : ∃ n1, (mall M).length = n1 := ⟨_, rfl⟩
          have HN1 := Lib.hid hn1
          have HO1 := Lib.hid O1
          rw [hn1] at hc1 hml HO1 ⊢
          clear hn1 O1
          have hbs := hB.size
          have HR01 := Lib.hid ((HR0.out.below hB).more hB.size)
          go_wp2_with (at_builtin; go_must (refine append_bytes u1 rfl _ _ rfl w.heap.size (.slice A1 n1 c1) (mall M) rfl HO1.out A0 n0 c0 lb rfl HR01.out (by have := HN1.out; omega) hbs ?_); intro v2 u2 O2 G2 _)
          replace hB := Below.grown hB G2 hB.size (fun q hq => (HO1.out.lt q hq).1)
          clear HO1 G2 HR01
          obtain ⟨A2, c2, rfl, hc2, R2⟩ := O2.reads
          have hll : (mall M ++ lb).length ≤ 70000 := by rw [List.length_append, HN1.out]; omega
          obtain ⟨n2, hn2⟩ : ∃ n2, (mall M ++ lb).length = n2 := ⟨_, rfl⟩
          rw [hn2] at R2 hc2 hll ⊢
          clear hn2
          refine (wire_New A2 n2 c2 u2).mono ?_
          rintro y u3 ⟨rfl, rfl⟩
          have R : Rd (u2.alloc (.cells #[.slice A2 n2 c2, .int .i64 0, .int .i64 0] 103)) u2.heap.size A2 n2 c2 (mall M ++ lb) 0 0 := ⟨Blk.new _ _ _, R2.alloc (Nat.le_refl _) _, Nat.zero_le _, by omega, hc2⟩
          have hgw := hB.size
          replace hB := hB.alloc hB.size (.cells #[.slice A2 n2 c2, .int .i64 0, .int .i64 0] 103)
          clear O2 R2 hbs
          generalize u2.alloc (.cells #[.slice A2 n2 c2, .int .i64 0, .int .i64 0] 103) = W1 at *
          generalize u2.heap.size = g at *
          have C1 := Lib.hid (mut_List W1 (HT.out.in_ (Nat.le_refl _) hB) g A2 n2 c2 (mall M ++ lb) 0 0 most (by omega) R)
          clear R
          by_cases hmo : most < (n : Int)
          · have hd : decide (most < (n : Int)) = true := by simp; omega
            have hy := pList_many M lb most (by rw [HML.out]; omega) (by rw [HML.out]; exact hmo)
            have HY := Lib.hid hy
            clear hy hmo
            go_wp2_with fail
            refine C1.out.mono ?_
            clear C1
            rintro y u4 ⟨v9, rfl, O9, ⟨k', -, R⟩, G⟩
            rw [HY.out, if_neg (by decide)] at O9
            rw [HY.out] at R
            replace hB := Below.grown hB G hB.size (fun q hq => by injection hq with hq; omega)
            obtain ⟨A9, c9, rfl, -, -, -⟩ := O9.rd
            clear O9 G
            go_wp2_with fail
            refine (reader_Why _ g A2 n2 c2 (mall M ++ lb) k' 31 R).mono ?_
            rintro x w9 ⟨rfl, rfl⟩
            go_wp2_with fail
            refine (alive07 u4 (HT.out.in_ (Nat.le_refl _) hB)).mono ?_
            rintro x u5 ⟨rfl, b5⟩
            replace hB := hB.trans (b5.mono hB.size)
            go_wp2_with fail
            go_ret
            exact ⟨rfl, hB⟩
          · have hd : decide (most < (n : Int)) = false := by simp; omega
            have hy := whole_list M most HRT.out (by rw [HML.out]; omega) (by rw [HML.out]; omega) [] lb
            rw [List.nil_append, List.length_nil, Nat.zero_add, HN1.out] at hy
            have HY := Lib.hid hy
            clear hy hmo
            go_wp2_with fail
            refine C1.out.mono ?_
            clear C1
            rintro y u4 ⟨v9, rfl, O9, ⟨k', hk', R⟩, G⟩
            rw [HY.out] at hk'
            have hke := hk' rfl
            rw [HY.out, if_pos rfl] at O9
            rw [HY.out, hke] at R
            replace hB := Below.grown hB G hB.size (fun q hq => by injection hq with hq; omega)
            obtain ⟨A9, c9, rfl, -, -, R9⟩ := O9.rd
            have CS := Lib.hid (ref07_Same A9 A M.length c9 n c M M u4 R9 (RM.out.below hB) (by rw [HML.out]; omega))
            rw [sameM_selfB] at CS
            clear O9 G R9 hk' hke
            go_wp2_with fail
            refine CS.out.mono ?_
            clear CS
            rintro x u5 ⟨rfl, b5⟩
            replace R := R.below b5
            replace hB := hB.trans (b5.mono hB.size)
            clear b5
            go_wp2_with fail
            refine (reader_Why _ g A2 n2 c2 (mall M ++ lb) n1 0 R).mono ?_
            rintro x w9 ⟨rfl, rfl⟩
            go_wp2_with fail
            refine (reader_At _ g A2 n2 c2 (mall M ++ lb) n1 0 R).mono ?_
            rintro x w9 ⟨rfl, rfl⟩
            go_wp2_with fail
            refine (alive07 u5 (HT.out.in_ (Nat.le_refl _) hB)).mono ?_
            rintro x u6 ⟨rfl, b6⟩
            replace hB := hB.trans (b6.mono hB.size)
            go_wp2_with fail
            go_ret
            exact ⟨rfl, hB⟩
end Go.Proofs.YthbhbechemnidaaDoor
