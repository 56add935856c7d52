/- Contract of the reference's Read. -/
import Derived.Test.YtfebncpfhdgkpaaRefNum
namespace Go.Proofs.Ytfebncpfhdgkpaa
open Go.RowKit Go.Sort

set_option maxRecDepth 100000 in
set_option maxHeartbeats 400000 in
theorem ref03_Read (A : Option Addr) (n c : Nat) (l : List UInt8) (w : World) (B : Nat) (most : Int) (hr : Reads w B 1 A n (l.map vb)) (hnc : n ≤ c) (hn : n ≤ 4611686018427387904) :
    Calls Try.prog 59 #[.slice A n c, .int .i64 most] w fun e w' => e = .returned (.tuple #[.string ⟨(rText l most 0).1.toArray⟩, .int .i64 ((rText l most 0).2.1 : Nat), .int .i64 (rText l most 0).2.2]) ∧ w = w' := by
  have hN := ref03_Num A n c l w B hr hn
  have hlen := hr.len
  obtain ⟨f1, f2, f3⟩ := rNum_facts l 0
  have hp := rNum_pos l 0
  unfold rText
  obtain ⟨v, m, e0, hq⟩ : ∃ v m e0, rNum l 0 = (v, m, e0) := ⟨_, _, _, rfl⟩
  have hq' : rnum l = (v, m, e0) := hq
  rw [hq] at f1 f2 f3 hp ⊢
  rw [hq'] at hN
  simp only [] at hN f1 f2 f3 hp ⊢
  have HN := Lib.hid hN
  clear hN hq hq'
  by_cases he : e0 = 0
  · subst he
    have hn0 : 0 < n := by have := hp rfl; omega
    obtain ⟨b, o, rfl, hb, hcell⟩ := hr.form hn0
    by_cases hm : most < (v : Int)
    · have S : Hid ((if (0 : Int) ≠ 0 then (([] : List UInt8), 0, (0 : Int)) else if most < (v : Int) then ([], 0, 31) else if l.length - m < v then ([], 0, 30) else ((l.drop m).take v, m + v, 0)) = ([], 0, 31)) := Lib.hid (by rw [if_neg (by decide), if_pos hm])
      rw [S.out]
      clear hr hcell
      go_enter Try.func59, Try.ntmps59
      go_wp2_with fail
      refine HN.out.mono ?_
      rintro e w1 ⟨rfl, rfl⟩
      go_wp2_with fail
      go_ret3
      exact ⟨rfl, rfl⟩
    · by_cases hl : l.length - m < v
      · have S : Hid ((if (0 : Int) ≠ 0 then (([] : List UInt8), 0, (0 : Int)) else if most < (v : Int) then ([], 0, 31) else if l.length - m < v then ([], 0, 30) else ((l.drop m).take v, m + v, 0)) = ([], 0, 30)) := Lib.hid (by rw [if_neg (by decide), if_neg hm, if_pos hl])
        rw [S.out]
        have hd : decide ((n : Int) - (m : Int) < (v : Int)) = true := by simp; omega
        clear hr hcell
        go_enter Try.func59, Try.ntmps59
        go_wp2_with fail
        refine HN.out.mono ?_
        rintro e w1 ⟨rfl, rfl⟩
        go_wp2_with fail
        go_ret3
        exact ⟨rfl, rfl⟩
      · have S : Hid ((if (0 : Int) ≠ 0 then (([] : List UInt8), 0, (0 : Int)) else if most < (v : Int) then ([], 0, 31) else if l.length - m < v then ([], 0, 30) else ((l.drop m).take v, m + v, 0)) = ((l.drop m).take v, m + v, 0)) := Lib.hid (by rw [if_neg (by decide), if_neg hm, if_neg hl])
        rw [S.out]
        have hd : decide ((n : Int) - (m : Int) < (v : Int)) = false := by simp; omega
        have s1 : 0 ≤ (m : Int) + v := by omega
        have s2 : (m : Int) + v ≤ c := by omega
        have s3 : 0 ≤ (m : Int) := by omega
        have s4 : (m : Int) ≤ max ((m : Int) + v) 0 := by omega
        have hcv := text_of_part w b o n c m v (m : Int) ((m : Int) + v) rfl (by omega) (by omega) hnc l hlen hcell 0
        rw [World.drewN_zero] at hcv
        have t1 : ((m : Int)).toNat = m := by omega
        have t2 : ((m : Int) + v).toNat - m = v := by omega
        rw [t1, t2] at hcv
        clear hr hcell
        by_cases hcm : c = m
        · rw [if_pos hcm] at hcv
          subst hcm
          rw [Nat.sub_self] at hcv
          go_enter Try.func59, Try.ntmps59
          go_wp2_with fail
          refine HN.out.mono ?_
          rintro e w1 ⟨rfl, rfl⟩
          go_wp2_with fail
          go_ret3
          exact ⟨by rw [Int.natCast_add]; rfl, rfl⟩
        · rw [if_neg hcm] at hcv
          go_enter Try.func59, Try.ntmps59
          go_wp2_with fail
          refine HN.out.mono ?_
          rintro e w1 ⟨rfl, rfl⟩
          go_wp2_with fail
          go_ret3
          exact ⟨by rw [Int.natCast_add]; rfl, rfl⟩
  · rw [if_pos he]
    obtain ⟨rfl, rfl⟩ := f3 he
    clear hr
    go_enter Try.func59, Try.ntmps59
    go_wp2_with fail
    refine HN.out.mono ?_
    rintro e w1 ⟨rfl, rfl⟩
    go_wp2_with fail
    go_ret3
    exact ⟨rfl, rfl⟩
end Go.Proofs.Ytfebncpfhdgkpaa
