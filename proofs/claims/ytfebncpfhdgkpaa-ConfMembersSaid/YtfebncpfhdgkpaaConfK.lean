/- Contracts of conf.May and of the law's always and may. -/
import Derived.Test.YtfebncpfhdgkpaaConfJ
import Derived.Deep.Cut
namespace Go.Proofs.Ytfebncpfhdgkpaa
open Go.RowKit Go.Sort Go.Shelf

abbrev RcI := Value × List Int
def RecI (w : World) (B : Nat) (x : RcI) : Prop := ∃ A c, x.1 = .slice A x.2.length c ∧ x.2.length ≤ c ∧ (A = none → c = 0) ∧ Reads w B 1 A x.2.length (x.2.map vi)
theorem RecI.below {w w' : World} {B : Nat} {x : RcI} (h : RecI w B x) (hb : Below B w w') : RecI w' B x := let ⟨A, c, e, h1, h2, r⟩ := h; ⟨A, c, e, h1, h2, r.below hb⟩
theorem RecI.more {w : World} {B B' : Nat} {x : RcI} (h : RecI w B x) (hb : B ≤ B') : RecI w B' x := let ⟨A, c, e, h1, h2, r⟩ := h; ⟨A, c, e, h1, h2, r.more hb⟩
/-- May a row stay as it is without n? -/
def okg (al : Int → Bool) (n : Int) (g : List Int) : Bool := !(g.any (fun y => n == y) && !g.any (fun m => (m != n) && al m))
def mayB (out al : Int → Bool) (n : Int) (gs : List (List Int)) : Bool := !out n && gs.all (okg al n)
theorem all_snoc {p : List Int → Bool} {gs : List RcI} {i : Nat} (h : ∀ x ∈ gs.take i, p x.2 = true) (hi : i < gs.length) (hp : p gs[i].2 = true) : ∀ x ∈ gs.take (i + 1), p x.2 = true := by
  intro x hx
  rw [List.take_succ_eq_append_getElem hi] at hx
  rcases List.mem_append.1 hx with hx | hx
  · exact h x hx
  · rw [List.mem_singleton] at hx
    rw [hx]
    exact hp

section
variable (w : World) (e : Int) (o0 o1 o2 o3 o4 : Bool) (j0 j1 j2 j3 j4 : Int)
set_option maxRecDepth 100000 in
set_option maxHeartbeats 2000000 in
theorem conf_May (n : Int) (A : Option Addr) (k c : Nat) (gs : List RcI) (hl : gs.length = k) (hr : Reads w w.heap.size 1 A k (gs.map fun x : RcI => x.1)) (hR : ∀ x ∈ gs, RecI w w.heap.size x) (hS : ∀ x ∈ gs, x.2.length ≤ 1000000) (hk : k ≤ 1000000) :
    Calls Try.prog 24 #[.agg #[.int .i64 e, .bool o0, .bool o1, .bool o2, .bool o3, .bool o4, .int .i64 j0, .int .i64 j1, .int .i64 j2, .int .i64 j3, .int .i64 j4], .int .i64 n, .slice A k c] w fun x w' => x = .returned (.bool (mayB (cOut o0 o1 o2 o3 o4) (alB o0 o1 o2 o3 o4 j0 j1 j2 j3 j4) n (gs.map fun x : RcI => x.2))) ∧ Below w.heap.size w w' := by
  have B0 := (Blk.new w 37 #[.int .i64 e, .bool o0, .bool o1, .bool o2, .bool o3, .bool o4, .int .i64 j0, .int .i64 j1, .int .i64 j2, .int .i64 j3, .int .i64 j4]).alloc (.cells #[.int .i64 n] 3)
  have B1 := Blk.new (w.alloc (.cells #[.int .i64 e, .bool o0, .bool o1, .bool o2, .bool o3, .bool o4, .int .i64 j0, .int .i64 j1, .int .i64 j2, .int .i64 j3, .int .i64 j4] 37)) 3 #[.int .i64 n]
  have hB : Below w.heap.size w ((w.alloc (.cells #[.int .i64 e, .bool o0, .bool o1, .bool o2, .bool o3, .bool o4, .int .i64 j0, .int .i64 j1, .int .i64 j2, .int .i64 j3, .int .i64 j4] 37)).alloc (.cells #[.int .i64 n] 3)) := ((Below.refl _ _).alloc (Nat.le_refl _) _).alloc (by simp) _
  have hs : w.heap.size + 1 < ((w.alloc (.cells #[.int .i64 e, .bool o0, .bool o1, .bool o2, .bool o3, .bool o4, .int .i64 j0, .int .i64 j1, .int .i64 j2, .int .i64 j3, .int .i64 j4] 37)).alloc (.cells #[.int .i64 n] 3)).heap.size := by simp
  have HR := Lib.hid ((hr.below hB).more hB.size)
  have HRR := Lib.hid (fun x hx => ((hR x hx).below hB).more hB.size)
  have HS := Lib.hid hS
  have HL := Lib.hid hl
  have eg : ∀ args w, (callFunc 72 args).run Try.prog w = .ok (.enter 72 args) w := enters_of Try.func72 (by kernel_rfl) rfl
  have EG := Lib.hid eg
  simp only [World.size_alloc] at B1
  clear hr hR hS hl eg
  go_enter Try.func24, Try.ntmps24
  go_upto_region 1 with fail
  generalize (w.alloc (.cells #[.int .i64 e, .bool o0, .bool o1, .bool o2, .bool o3, .bool o4, .int .i64 j0, .int .i64 j1, .int .i64 j2, .int .i64 j3, .int .i64 j4] 37)).alloc (.cells #[.int .i64 n] 3) = W at *
  have c0 := B0.cell
  have c1 := B1.cell
  go_wp2_with fail
  refine (conf_Is e o0 o1 o2 o3 o4 j0 j1 j2 j3 j4 n W).mono ?_
  rintro e' w1 ⟨rfl, b1⟩
  have hb1 := b1
  replace hB := hB.trans (b1.mono hB.size)
  clear c0 c1 b1
  obtain ⟨q, hq⟩ : ∃ q, cOut o0 o1 o2 o3 o4 n = q := ⟨_, rfl⟩
  have HQ := Lib.hid hq
  rw [hq]
  clear hq
  cases q
  case true =>
    go_wp2_with fail
    go_ret
    exact ⟨ret_bool (by unfold mayB; rw [HQ.out]; rfl), hB⟩
  go_wp2_with fail
  go_loopw [8, 9, 16] (fun _ _ v16 wr => ∃ i : Nat, v16 = .int .i64 i ∧ i ≤ k ∧ (∀ x ∈ gs.take i, okg (alB o0 o1 o2 o3 o4 j0 j1 j2 j3 j4) n x.2 = true) ∧ Below W.heap.size W wr ∧ Below w.heap.size w wr) (fun _ _ v16 _ => k - (intOf v16).toNat)
  case atStart => exact ⟨0, rfl, Nat.zero_le _, by simp, hb1, hB⟩
  case round =>
    clear hb1 hB
    obtain ⟨i, rfl, hik, hall, hb, hB⟩ := hrel
    have HALL := Lib.hid hall
    clear hall
    by_cases hi : i < k
    · obtain ⟨b, off, hbo, _, hc⟩ := Reads.form (HR.out.below hb) (by omega)
      subst hbo
      have hil : i < gs.length := by have := HL.out; omega
      have q0 := hc i gs[i].1 (by simp [hil])
      obtain ⟨Ai, ci, hei, _, _, Ri⟩ := HRR.out gs[i] (List.getElem_mem hil)
      have hli := HS.out gs[i] (List.getElem_mem hil)
      have hsn := all_snoc (p := okg (alB o0 o1 o2 o3 o4 j0 j1 j2 j3 j4) n) HALL.out hil
      rw [hei] at q0
      have hmem : gs[i].2 ∈ gs.map (fun x : RcI => x.2) := List.mem_map_of_mem (List.getElem_mem hil)
      generalize gs[i].2 = g at *
      obtain ⟨ni, hni⟩ : ∃ ni, g.length = ni := ⟨_, rfl⟩
      rw [hni] at q0 hli Ri
      have HSN := Lib.hid hsn
      have HMEM := Lib.hid hmem
      have c1 := (B1.below hb hs).cell
      have HC1 := Lib.hid (ints_Contains Ai ni ci g wr n ((Ri.below hb).more hb.size) (by omega))
      have HNI := Lib.hid hni
      have HRi := Lib.hid Ri
      have hok : okg (alB o0 o1 o2 o3 o4 j0 j1 j2 j3 j4) n g = !(g.any (fun y => n == y) && !g.any (fun m => (m != n) && alB o0 o1 o2 o3 o4 j0 j1 j2 j3 j4 m)) := rfl
      have HOK := Lib.hid hok
      clear hsn hmem hei hc hni Ri hok
      go_wp2_with fail
      refine HC1.out.mono ?_
      clear HC1 q0 c1
      rintro e' w2 ⟨rfl, b2⟩
      replace hB := hB.trans (b2.mono hB.size)
      replace hb := hb.trans (b2.mono hb.size)
      clear b2
      obtain ⟨a1, ha1⟩ : ∃ a1, g.any (fun y => n == y) = a1 := ⟨_, rfl⟩
      rw [ha1] at HOK ⊢
      clear ha1
      cases a1
      case false =>
        go_wp2_with fail
        go_roundw
        case rel => exact ⟨i + 1, by go_num, by omega, HSN.out (by rw [HOK.out]; rfl), hb, hB⟩
        case measure => simp [intOf]; omega
      case true =>
        have HC2 := Lib.hid (ints_ContainsFunc Ai ni ci g w2 W.heap.size 72 #[] #[.pointer (some ⟨w.heap.size + 1, 0, none⟩), .pointer (some ⟨w.heap.size, 0, none⟩)] (fun m => (m != n) && alB o0 o1 o2 o3 o4 j0 j1 j2 j3 j4 m) EG.out (HRi.out.below hb) hb.size (by omega) (may_pred (B0.below hb (by omega)) (by omega) (B1.below hb hs) hs))
        go_wp2_with fail
        refine HC2.out.mono ?_
        clear HC2
        rintro e' w3 ⟨rfl, b3⟩
        replace hB := hB.trans (b3.mono (by omega))
        replace hb := hb.trans b3
        clear b3
        obtain ⟨a2, ha2⟩ : ∃ a2, g.any (fun m => (m != n) && alB o0 o1 o2 o3 o4 j0 j1 j2 j3 j4 m) = a2 := ⟨_, rfl⟩
        rw [ha2] at HOK ⊢
        clear ha2
        cases a2
        case true =>
          go_wp2_with fail
          go_roundw
          case rel => exact ⟨i + 1, by go_num, by omega, HSN.out (by rw [HOK.out]; rfl), hb, hB⟩
          case measure => simp [intOf]; omega
        case false =>
          go_wp2_with fail
          go_ret
          refine ⟨ret_bool ?_, hB⟩
          unfold mayB
          have : (gs.map fun x : RcI => x.2).all (okg (alB o0 o1 o2 o3 o4 j0 j1 j2 j3 j4) n) = false := List.all_eq_false.2 ⟨g, HMEM.out, by rw [HOK.out]; decide⟩
          rw [this, Bool.and_false]
    · have HX : Hid (mayB (cOut o0 o1 o2 o3 o4) (alB o0 o1 o2 o3 o4 j0 j1 j2 j3 j4) n (gs.map fun x : RcI => x.2) = true) := Lib.hid (by
        unfold mayB
        rw [HQ.out]
        simp only [Bool.not_false, Bool.true_and]
        rw [List.all_eq_true]
        intro x hx
        obtain ⟨y, hy, rfl⟩ := List.mem_map.1 hx
        refine HALL.out y ?_
        rw [List.take_of_length_le (by have := HL.out; omega)]
        exact hy)
      go_wp2_with fail
      go_ret
      exact ⟨ret_bool HX.out.symm, hB⟩

set_option maxRecDepth 100000 in
set_option maxHeartbeats 1000000 in
theorem law21_always (n : Int) : Calls Try.prog 20 #[.agg #[.int .i64 e, .bool o0, .bool o1, .bool o2, .bool o3, .bool o4, .int .i64 j0, .int .i64 j1, .int .i64 j2, .int .i64 j3, .int .i64 j4], .int .i64 n] w fun x w' => x = .returned (.bool (alB o0 o1 o2 o3 o4 j0 j1 j2 j3 j4 n)) ∧ Below w.heap.size w w' := by
  rcases cases5 n with h | h | rfl | rfl | rfl | rfl | rfl
  · go_enter Try.func20, Try.ntmps20
    go_wp2
    go_ret
    exact ⟨ret_bool (by unfold alB cOut; rw [if_neg (by omega), if_neg (by omega), if_neg (by omega), if_neg (by omega), if_neg (by omega)]; rfl), (Below.refl _ _).alloc (Nat.le_refl _) _⟩
  · go_enter Try.func20, Try.ntmps20
    go_wp2
    go_ret
    exact ⟨ret_bool (by unfold alB cOut; rw [if_neg (by omega), if_neg (by omega), if_neg (by omega), if_neg (by omega), if_neg (by omega)]; rfl), (Below.refl _ _).alloc (Nat.le_refl _) _⟩
  · cases o0
    all_goals
      go_enter Try.func20, Try.ntmps20
      go_wp2
      go_ret
      exact ⟨ret_bool (by simp [alB, cOut, cJoin]), (Below.refl _ _).alloc (Nat.le_refl _) _⟩
  · cases o1
    all_goals
      go_enter Try.func20, Try.ntmps20
      go_wp2
      go_ret
      exact ⟨ret_bool (by simp [alB, cOut, cJoin]), (Below.refl _ _).alloc (Nat.le_refl _) _⟩
  · cases o2
    all_goals
      go_enter Try.func20, Try.ntmps20
      go_wp2
      go_ret
      exact ⟨ret_bool (by simp [alB, cOut, cJoin]), (Below.refl _ _).alloc (Nat.le_refl _) _⟩
  · cases o3
    all_goals
      go_enter Try.func20, Try.ntmps20
      go_wp2
      go_ret
      exact ⟨ret_bool (by simp [alB, cOut, cJoin]), (Below.refl _ _).alloc (Nat.le_refl _) _⟩
  · cases o4
    all_goals
      go_enter Try.func20, Try.ntmps20
      go_wp2
      go_ret
      exact ⟨ret_bool (by simp [alB, cOut, cJoin]), (Below.refl _ _).alloc (Nat.le_refl _) _⟩
end
end Go.Proofs.Ytfebncpfhdgkpaa
