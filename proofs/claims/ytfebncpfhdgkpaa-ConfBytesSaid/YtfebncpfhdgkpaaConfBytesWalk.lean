/- The walk of the law ConfBytes: it returns true, and nothing that was there ahead of the call has turned. -/
import Derived.Test.YtfebncpfhdgkpaaConfG
import Derived.Test.YtfebncpfhdgkpaaConfH
import Derived.Test.YtfebncpfhdgkpaaConfB
import Derived.Test.YtfebncpfhdgkpaaConfE
import Derived.Test.YtfebncpfhdgkpaaFive
import Derived.Deep.CutRange
import Derived.Deep.RegionWith
namespace Go.Proofs.Ytfebncpfhdgkpaa
open Go.RowKit Go.Sort

theorem Blk.next {w w' : World} {g : Nat} {t : TypeId} {cs : Array Value} (h : Blk w g t cs) (hb : Below w.heap.size w w') : Blk w' g t cs := h.below hb h.lt
theorem law21_right_yes (e : Int) (P : List (Bool × Int)) (hl : P.length = 5) (h : CRt e P) (w : World) : Calls Try.prog 55 #[.agg (cfC e P).toArray] w fun x w' => x = .returned (.bool true) ∧ Below w.heap.size w w' := by
  obtain ⟨o0, o1, o2, o3, o4, j0, j1, j2, j3, j4, rfl⟩ := five_pairs P hl
  have hr := (cRight_iff e o0 o1 o2 o3 o4 j0 j1 j2 j3 j4).2 h
  have hc := law21_right e o0 o1 o2 o3 o4 j0 j1 j2 j3 j4 w
  rw [hr] at hc
  exact hc
theorem cgAll_cases (L : List UInt8) : ((cgAll L).2.2 = 0 ∧ ∃ (e : Int) (P : List (Bool × Int)), cgV (cgAll L) = .tuple #[.agg (cfC e P).toArray, .int .i64 0] ∧ L = cput e P ∧ P.length = 5 ∧ CRt e P) ∨
    ∃ y : Int, y ≠ 0 ∧ cgV (cgAll L) = .tuple #[.agg #[.int .i64 0, .bool false, .bool false, .bool false, .bool false, .bool false, .int .i64 0, .int .i64 0, .int .i64 0, .int .i64 0, .int .i64 0], .int .i64 y] := by
  by_cases h : (cgAll L).2.2 = 0
  · left
    obtain ⟨h1, h2, h3, h4, h5⟩ := cgAll_take h
    refine ⟨h, (cgAll L).1, (cgAll L).2.1, ?_, h1, h2, ⟨h3, h4⟩, h5⟩
    unfold cgV
    rw [if_pos h]
  · right
    refine ⟨(cgAll L).2.2, h, ?_⟩
    unfold cgV
    rw [if_neg h]
    rfl

set_option maxRecDepth 100000 in
set_option maxHeartbeats 8000000 in
theorem conf_bytes_walk (w : World) (e : Int) (o0 o1 o2 o3 o4 : Bool) (j0 j1 j2 j3 j4 : Int) (A : Option Addr) (n c : Nat) (l : List UInt8) (_ : n ≤ c) (_ : c ≤ maxLen) (hll : l.length = n) (hr : Reads w w.heap.size 1 A n (l.map vb)) (hA : A = none → c = 0) :
    Calls Try.prog 11 #[.agg #[.int .i64 e, .bool o0, .bool o1, .bool o2, .bool o3, .bool o4, .int .i64 j0, .int .i64 j1, .int .i64 j2, .int .i64 j3, .int .i64 j4], .slice A n c] w fun x w' => x = .returned (.bool true) ∧ Below w.heap.size w w' := by
  by_cases hbig : 500 < n
  · have hd : decide (500 < (n : Int)) = true := by simp; omega
    clear hA hll
    go_enter Try.func11, Try.ntmps11
    go_wp2_with fail
    go_ret
    exact ⟨rfl, (Below.refl _ _).alloc (Nat.le_refl _) _⟩
  have hd : decide (500 < (n : Int)) = false := by simp; omega
  have HR := Lib.hid hr
  have HL := Lib.hid hll
  have HA := Lib.hid hA
  clear hr hll hA
  have BC := Blk.new w 37 #[.int .i64 e, .bool o0, .bool o1, .bool o2, .bool o3, .bool o4, .int .i64 j0, .int .i64 j1, .int .i64 j2, .int .i64 j3, .int .i64 j4]
  have hB : Below w.heap.size w (w.alloc (.cells #[.int .i64 e, .bool o0, .bool o1, .bool o2, .bool o3, .bool o4, .int .i64 j0, .int .i64 j1, .int .i64 j2, .int .i64 j3, .int .i64 j4] 37)) := (Below.refl _ _).alloc (Nat.le_refl _) _
  go_enter Try.func11, Try.ntmps11
  go_wp2_with fail
  generalize w.alloc (.cells #[.int .i64 e, .bool o0, .bool o1, .bool o2, .bool o3, .bool o4, .int .i64 j0, .int .i64 j1, .int .i64 j2, .int .i64 j3, .int .i64 j4] 37) = W at *
  refine (law21_right e o0 o1 o2 o3 o4 j0 j1 j2 j3 j4 W).mono ?_
  rintro x w1 ⟨rfl, b1⟩
  replace BC := BC.next b1
  replace hB := hB.trans (b1.mono hB.size)
  clear b1
  cases hcr : cRight e j0 j1 j2 j3 j4 with
  | false =>
    clear BC
    go_wp2_with fail
    refine (bytes_Clone A n c l w1 ((HR.out.below hB).more hB.size) HA.out (by omega)).mono ?_
    rintro x t1 ⟨u1, rfl, Q1, d1⟩
    replace hB := hB.trans (d1.mono hB.size)
    clear d1
    obtain ⟨A7, c7, rfl, hc7, R7⟩ := Q1.reads
    rw [HL.out] at R7 hc7 ⊢
    clear Q1
    have hGe7 := conf_Get A7 n c7 l t1 R7 hc7 (by omega)
    rcases cgAll_cases l with ⟨_, e', P', hv, hL, hl5, hcrt⟩ | ⟨y, hy, hv⟩
    · obtain ⟨p0, p1, p2, p3, p4, q0, q1, q2, q3, q4, rfl⟩ := five_pairs P' hl5
      have hv2 : cgV (cgAll l) = .tuple #[.agg #[.int .i64 e', .bool p0, .bool p1, .bool p2, .bool p3, .bool p4, .int .i64 q0, .int .i64 q1, .int .i64 q2, .int .i64 q3, .int .i64 q4], .int .i64 0] := hv
      rw [hv2] at hGe7
      have hPb : ∀ p ∈ [(p0, q0), (p1, q1), (p2, q2), (p3, q3), (p4, q4)], p.2 ≤ 9223372036854775807 := fun p hp => by have := hcrt.2 p hp; have := hcrt.1.2; omega
      have heb : e' ≤ 9223372036854775807 := by have := hcrt.1.2; omega
      have HR9 := Lib.hid (fun W => law21_right_yes e' [(p0, q0), (p1, q1), (p2, q2), (p3, q3), (p4, q4)] rfl hcrt W)
      have HB9 := Lib.hid (fun W => law21_bytes e' [(p0, q0), (p1, q1), (p2, q2), (p3, q3), (p4, q4)] rfl heb hPb W)
      rw [← hL] at HB9
      have HGe7 := Lib.hid hGe7
      clear hv hv2 hL hl5 hcrt hPb heb hGe7
      go_wp2_with fail
      refine HGe7.out.mono ?_
      rintro x t2 ⟨rfl, d2⟩
      replace hB := hB.trans (d2.mono hB.size)
      clear d2 HGe7 R7
      go_upto_region 8 with fail
      have BE := Blk.new t2 37 #[.int .i64 e', .bool p0, .bool p1, .bool p2, .bool p3, .bool p4, .int .i64 q0, .int .i64 q1, .int .i64 q2, .int .i64 q3, .int .i64 q4]
      replace hB := hB.alloc hB.size (.cells #[.int .i64 e', .bool p0, .bool p1, .bool p2, .bool p3, .bool p4, .int .i64 q0, .int .i64 q1, .int .i64 q2, .int .i64 q3, .int .i64 q4] 37)
      generalize t2.alloc (.cells #[.int .i64 e', .bool p0, .bool p1, .bool p2, .bool p3, .bool p4, .int .i64 q0, .int .i64 q1, .int .i64 q2, .int .i64 q3, .int .i64 q4] 37) = T at *
      have ce := BE.cell
      go_wp2_with fail
      refine (HR9.out T).mono ?_
      rintro x t3 ⟨rfl, d3⟩
      replace BE := BE.next d3
      replace hB := hB.trans (d3.mono hB.size)
      clear d3 ce
      have ce := BE.cell
      go_wp2_with fail
      refine (HB9.out t3).mono ?_
      rintro x t4 ⟨u4, rfl, Q4, d4⟩
      replace hB := hB.trans (d4.mono hB.size)
      clear d4 ce BE
      obtain ⟨A8, c8, rfl, _, R8⟩ := Q4.reads
      rw [HL.out] at R8 ⊢
      clear Q4
      have hEq := bytes_Equal A8 A n n c8 c l l t4 R8 ((HR.out.below hB).more hB.size) (by omega)
      rw [show decide (l = l) = true by simp] at hEq
      have HEq := Lib.hid hEq
      clear hEq R8
      go_wp2_with fail
      refine HEq.out.mono ?_
      rintro x t5 ⟨rfl, d5⟩
      replace hB := hB.trans (d5.mono hB.size)
      clear d5
      go_wp2_with fail
      refine (alive21 _).mono ?_
      rintro x t6 ⟨rfl, d6⟩
      go_wp2_with fail
      go_ret
      exact ⟨rfl, hB.trans (d6.mono hB.size)⟩
    · rw [hv] at hGe7
      have HGe7 := Lib.hid hGe7
      have hyb : (y != 0) = true := by simp [hy]
      have E1 := fun w a0 a1 a2 a3 a4 b0 b1 b2 b3 b4 => run_equalIn_five_bool (P := Try.prog) w 9997 34 4 Try.underlying34 Try.underlying4 (fun _ => by kernel_rfl) (fun _ => by kernel_rfl) a0 a1 a2 a3 a4 b0 b1 b2 b3 b4
      have E2 := fun w a0 a1 a2 a3 a4 b0 b1 b2 b3 b4 => run_equalIn_five_int (P := Try.prog) w 9997 35 3 Try.underlying35 Try.underlying3 (fun _ => by kernel_rfl) (fun _ => by kernel_rfl) a0 a1 a2 a3 a4 b0 b1 b2 b3 b4
      clear hv hy hGe7
      go_wp2_with fail
      refine HGe7.out.mono ?_
      rintro x t2 ⟨rfl, d2⟩
      replace hB := hB.trans (d2.mono hB.size)
      clear d2 HGe7 R7
      go_upto_region 8 with fail
      have BE := Blk.new t2 37 #[.int .i64 0, .bool false, .bool false, .bool false, .bool false, .bool false, .int .i64 0, .int .i64 0, .int .i64 0, .int .i64 0, .int .i64 0]
      replace hB := hB.alloc hB.size (.cells #[.int .i64 0, .bool false, .bool false, .bool false, .bool false, .bool false, .int .i64 0, .int .i64 0, .int .i64 0, .int .i64 0, .int .i64 0] 37)
      generalize t2.alloc (.cells #[.int .i64 0, .bool false, .bool false, .bool false, .bool false, .bool false, .int .i64 0, .int .i64 0, .int .i64 0, .int .i64 0, .int .i64 0] 37) = T at *
      have ce := BE.cell
      go_wp2_with fail
      refine (alive21 _).mono ?_
      rintro x t6 ⟨rfl, d6⟩
      go_wp2_with fail
      go_ret
      exact ⟨rfl, hB.trans (d6.mono hB.size)⟩
  | true =>
    have hCR := (cRight_iff e o0 o1 o2 o3 o4 j0 j1 j2 j3 j4).1 hcr
    have hP : ∀ p ∈ [(o0, j0), (o1, j1), (o2, j2), (o3, j3), (o4, j4)], p.2 ≤ 9223372036854775807 := fun p hp => by have := hCR.2 p hp; have := hCR.1.2; omega
    have he : e ≤ 9223372036854775807 := by have := hCR.1.2; omega
    have hg : cgV (cgAll (cput e [(o0, j0), (o1, j1), (o2, j2), (o3, j3), (o4, j4)])) = .tuple #[.agg #[.int .i64 e, .bool o0, .bool o1, .bool o2, .bool o3, .bool o4, .int .i64 j0, .int .i64 j1, .int .i64 j2, .int .i64 j3, .int .i64 j4], .int .i64 0] := by
      rw [cgAll_cput e _ rfl hCR.1.1 hCR.1.2 hCR.2]
      rfl
    have HPut := Lib.hid (fun W => conf_Put e [(o0, j0), (o1, j1), (o2, j2), (o3, j3), (o4, j4)] rfl he hP W)
    have HByt := Lib.hid (fun W => law21_bytes e [(o0, j0), (o1, j1), (o2, j2), (o3, j3), (o4, j4)] rfl he hP W)
    have hlen : (cput e [(o0, j0), (o1, j1), (o2, j2), (o3, j3), (o4, j4)]).length ≤ 200 := by
      have h0 := wput_length e.toNat (by omega)
      have h1 := cput1_len (o0, j0) (hP _ (by simp))
      have h2 := cput1_len (o1, j1) (hP _ (by simp))
      have h3 := cput1_len (o2, j2) (hP _ (by simp))
      have h4 := cput1_len (o3, j3) (hP _ (by simp))
      have h5 := cput1_len (o4, j4) (hP _ (by simp))
      simp only [cput, cputs, List.flatMap_cons, List.flatMap_nil, List.length_append, List.length_nil, wputI] at *
      omega
    have HG := Lib.hid hg
    have HLen := Lib.hid hlen
    clear hg hP he hCR hlen
    generalize cput e [(o0, j0), (o1, j1), (o2, j2), (o3, j3), (o4, j4)] = B at *
    have cc := BC.cell
    go_wp2_with fail
    refine (HPut.out w1).mono ?_
    rintro x w2 ⟨v2, rfl, O2, b2⟩
    replace BC := BC.next b2
    replace hB := hB.trans (b2.mono hB.size)
    clear b2 cc
    obtain ⟨A2, c2, rfl, hc2, R2⟩ := O2.reads
    clear O2
    go_wp2_with fail
    have hGe := conf_Get A2 B.length c2 B w2 R2 hc2 (by have := HLen.out; omega)
    rw [HG.out] at hGe
    refine hGe.mono ?_
    clear hGe
    rintro x w3 ⟨rfl, b3⟩
    replace BC := BC.next b3
    replace hB := hB.trans (b3.mono hB.size)
    clear b3 R2 hc2
    go_upto_region 5 with fail
    have BD := Blk.new w3 37 #[.int .i64 e, .bool o0, .bool o1, .bool o2, .bool o3, .bool o4, .int .i64 j0, .int .i64 j1, .int .i64 j2, .int .i64 j3, .int .i64 j4]
    replace BC := BC.alloc (.cells #[.int .i64 e, .bool o0, .bool o1, .bool o2, .bool o3, .bool o4, .int .i64 j0, .int .i64 j1, .int .i64 j2, .int .i64 j3, .int .i64 j4] 37)
    replace hB := hB.alloc hB.size (.cells #[.int .i64 e, .bool o0, .bool o1, .bool o2, .bool o3, .bool o4, .int .i64 j0, .int .i64 j1, .int .i64 j2, .int .i64 j3, .int .i64 j4] 37)
    generalize w3.alloc (.cells #[.int .i64 e, .bool o0, .bool o1, .bool o2, .bool o3, .bool o4, .int .i64 j0, .int .i64 j1, .int .i64 j2, .int .i64 j3, .int .i64 j4] 37) = V at *
    generalize w3.heap.size = gd at *
    go_cut [34] from 20 to 34 (fun s34 wx => s34 = .bool false ∧ Below w.heap.size w wx)
    case first =>
      have E1 := fun w a0 a1 a2 a3 a4 b0 b1 b2 b3 b4 => run_equalIn_five_bool (P := Try.prog) w 9997 34 4 Try.underlying34 Try.underlying4 (fun _ => by kernel_rfl) (fun _ => by kernel_rfl) a0 a1 a2 a3 a4 b0 b1 b2 b3 b4
      have E2 := fun w a0 a1 a2 a3 a4 b0 b1 b2 b3 b4 => run_equalIn_five_int (P := Try.prog) w 9997 35 3 Try.underlying35 Try.underlying3 (fun _ => by kernel_rfl) (fun _ => by kernel_rfl) a0 a1 a2 a3 a4 b0 b1 b2 b3 b4
      have BCd := BC.drew
      have BDd := BD.drew
      have cC := BCd.cell
      have cD := BDd.cell
      have hBd := below_drewN hB 1
      go_region_with (first
        | (go_at_call 57; ((refine (HPut.out _).mono ?_); rintro x wp ⟨vp, rfl, Op, bp⟩; have BCp : Blk wp w.heap.size 37 #[.int .i64 e, .bool o0, .bool o1, .bool o2, .bool o3, .bool o4, .int .i64 j0, .int .i64 j1, .int .i64 j2, .int .i64 j3, .int .i64 j4] := Blk.next (by assumption) bp; have BDp : Blk wp gd 37 #[.int .i64 e, .bool o0, .bool o1, .bool o2, .bool o3, .bool o4, .int .i64 j0, .int .i64 j1, .int .i64 j2, .int .i64 j3, .int .i64 j4] := Blk.next (by assumption) bp; have cCp := BCp.cell; have cDp := BDp.cell))
        | (go_at_call 58; ((refine (HByt.out _).mono ?_); rintro x wb ⟨vb', rfl, Ob, bb⟩; have BCb : Blk wb w.heap.size 37 #[.int .i64 e, .bool o0, .bool o1, .bool o2, .bool o3, .bool o4, .int .i64 j0, .int .i64 j1, .int .i64 j2, .int .i64 j3, .int .i64 j4] := Blk.next (by assumption) bb; have BDb : Blk wb gd 37 #[.int .i64 e, .bool o0, .bool o1, .bool o2, .bool o3, .bool o4, .int .i64 j0, .int .i64 j1, .int .i64 j2, .int .i64 j3, .int .i64 j4] := Blk.next (by assumption) bb; have cCb := BCb.cell; have cDb := BDb.cell))
        | (go_at_call 32; ((first | refine (own_Equal (Op.below bb) Ob (by have := HLen.out; omega)).mono ?_ | refine (own_Equal Op (Ob.below bp) (by have := HLen.out; omega)).mono ?_); rintro x we ⟨rfl, be⟩; rw [show decide (B = B) = true by simp]; have BCe : Blk we w.heap.size 37 #[.int .i64 e, .bool o0, .bool o1, .bool o2, .bool o3, .bool o4, .int .i64 j0, .int .i64 j1, .int .i64 j2, .int .i64 j3, .int .i64 j4] := Blk.next (by assumption) be; have BDe : Blk we gd 37 #[.int .i64 e, .bool o0, .bool o1, .bool o2, .bool o3, .bool o4, .int .i64 j0, .int .i64 j1, .int .i64 j2, .int .i64 j3, .int .i64 j4] := Blk.next (by assumption) be; have cCe := BCe.cell; have cDe := BDe.cell)))
      all_goals
        go_wp2_with fail
        go_meet
        case rel => exact ⟨rfl, hBd.trans (Below.mono (by first | exact bthen (bthen bp bb) be | exact bthen (bthen bb bp) be) hBd.size)⟩
    case rest =>
    obtain ⟨rfl, hBx⟩ := hcut
    clear hB BC BD HPut HByt HG HLen
    have hB := hBx
    clear hBx
    go_wp2_with fail
    refine (bytes_Clone A n c l wc ((HR.out.below hB).more hB.size) HA.out (by omega)).mono ?_
    rintro x t1 ⟨u1, rfl, Q1, d1⟩
    replace hB := hB.trans (d1.mono hB.size)
    clear d1
    obtain ⟨A7, c7, rfl, hc7, R7⟩ := Q1.reads
    rw [HL.out] at R7 hc7 ⊢
    clear Q1
    have hGe7 := conf_Get A7 n c7 l t1 R7 hc7 (by omega)
    rcases cgAll_cases l with ⟨_, e', P', hv, hL, hl5, hcrt⟩ | ⟨y, hy, hv⟩
    · obtain ⟨p0, p1, p2, p3, p4, q0, q1, q2, q3, q4, rfl⟩ := five_pairs P' hl5
      have hv2 : cgV (cgAll l) = .tuple #[.agg #[.int .i64 e', .bool p0, .bool p1, .bool p2, .bool p3, .bool p4, .int .i64 q0, .int .i64 q1, .int .i64 q2, .int .i64 q3, .int .i64 q4], .int .i64 0] := hv
      rw [hv2] at hGe7
      have hPb : ∀ p ∈ [(p0, q0), (p1, q1), (p2, q2), (p3, q3), (p4, q4)], p.2 ≤ 9223372036854775807 := fun p hp => by have := hcrt.2 p hp; have := hcrt.1.2; omega
      have heb : e' ≤ 9223372036854775807 := by have := hcrt.1.2; omega
      have HR9 := Lib.hid (fun W => law21_right_yes e' [(p0, q0), (p1, q1), (p2, q2), (p3, q3), (p4, q4)] rfl hcrt W)
      have HB9 := Lib.hid (fun W => law21_bytes e' [(p0, q0), (p1, q1), (p2, q2), (p3, q3), (p4, q4)] rfl heb hPb W)
      rw [← hL] at HB9
      have HGe7 := Lib.hid hGe7
      clear hv hv2 hL hl5 hcrt hPb heb hGe7
      go_wp2_with fail
      refine HGe7.out.mono ?_
      rintro x t2 ⟨rfl, d2⟩
      replace hB := hB.trans (d2.mono hB.size)
      clear d2 HGe7 R7
      go_upto_region 8 with fail
      have BE := Blk.new t2 37 #[.int .i64 e', .bool p0, .bool p1, .bool p2, .bool p3, .bool p4, .int .i64 q0, .int .i64 q1, .int .i64 q2, .int .i64 q3, .int .i64 q4]
      replace hB := hB.alloc hB.size (.cells #[.int .i64 e', .bool p0, .bool p1, .bool p2, .bool p3, .bool p4, .int .i64 q0, .int .i64 q1, .int .i64 q2, .int .i64 q3, .int .i64 q4] 37)
      generalize t2.alloc (.cells #[.int .i64 e', .bool p0, .bool p1, .bool p2, .bool p3, .bool p4, .int .i64 q0, .int .i64 q1, .int .i64 q2, .int .i64 q3, .int .i64 q4] 37) = T at *
      have ce := BE.cell
      go_wp2_with fail
      refine (HR9.out T).mono ?_
      rintro x t3 ⟨rfl, d3⟩
      replace BE := BE.next d3
      replace hB := hB.trans (d3.mono hB.size)
      clear d3 ce
      have ce := BE.cell
      go_wp2_with fail
      refine (HB9.out t3).mono ?_
      rintro x t4 ⟨u4, rfl, Q4, d4⟩
      replace hB := hB.trans (d4.mono hB.size)
      clear d4 ce BE
      obtain ⟨A8, c8, rfl, _, R8⟩ := Q4.reads
      rw [HL.out] at R8 ⊢
      clear Q4
      have hEq := bytes_Equal A8 A n n c8 c l l t4 R8 ((HR.out.below hB).more hB.size) (by omega)
      rw [show decide (l = l) = true by simp] at hEq
      have HEq := Lib.hid hEq
      clear hEq R8
      go_wp2_with fail
      refine HEq.out.mono ?_
      rintro x t5 ⟨rfl, d5⟩
      replace hB := hB.trans (d5.mono hB.size)
      clear d5
      go_wp2_with fail
      refine (alive21 _).mono ?_
      rintro x t6 ⟨rfl, d6⟩
      go_wp2_with fail
      go_ret
      exact ⟨rfl, hB.trans (d6.mono hB.size)⟩
    · rw [hv] at hGe7
      have HGe7 := Lib.hid hGe7
      have hyb : (y != 0) = true := by simp [hy]
      have E1 := fun w a0 a1 a2 a3 a4 b0 b1 b2 b3 b4 => run_equalIn_five_bool (P := Try.prog) w 9997 34 4 Try.underlying34 Try.underlying4 (fun _ => by kernel_rfl) (fun _ => by kernel_rfl) a0 a1 a2 a3 a4 b0 b1 b2 b3 b4
      have E2 := fun w a0 a1 a2 a3 a4 b0 b1 b2 b3 b4 => run_equalIn_five_int (P := Try.prog) w 9997 35 3 Try.underlying35 Try.underlying3 (fun _ => by kernel_rfl) (fun _ => by kernel_rfl) a0 a1 a2 a3 a4 b0 b1 b2 b3 b4
      clear hv hy hGe7
      go_wp2_with fail
      refine HGe7.out.mono ?_
      rintro x t2 ⟨rfl, d2⟩
      replace hB := hB.trans (d2.mono hB.size)
      clear d2 HGe7 R7
      go_upto_region 8 with fail
      have BE := Blk.new t2 37 #[.int .i64 0, .bool false, .bool false, .bool false, .bool false, .bool false, .int .i64 0, .int .i64 0, .int .i64 0, .int .i64 0, .int .i64 0]
      replace hB := hB.alloc hB.size (.cells #[.int .i64 0, .bool false, .bool false, .bool false, .bool false, .bool false, .int .i64 0, .int .i64 0, .int .i64 0, .int .i64 0, .int .i64 0] 37)
      generalize t2.alloc (.cells #[.int .i64 0, .bool false, .bool false, .bool false, .bool false, .bool false, .int .i64 0, .int .i64 0, .int .i64 0, .int .i64 0, .int .i64 0] 37) = T at *
      have ce := BE.cell
      go_wp2_with fail
      refine (alive21 _).mono ?_
      rintro x t6 ⟨rfl, d6⟩
      go_wp2_with fail
      go_ret
      exact ⟨rfl, hB.trans (d6.mono hB.size)⟩
end Go.Proofs.Ytfebncpfhdgkpaa
