/- fold.Sort of three texts that stand the other way round (what the chapter's example asks): slices.Clone, insertionSortCmpFunc, pdqsortCmpFunc, SortFunc, Compact at texts. -/
import Derived.Test.YtfkooohnaodjmaaFolE
import Derived.Test.YtfkooohnaodjmaaTxt
import Derived.Test.YtfkooohnaodjmaaShelf
import Derived.Lib.SliceRun
import Derived.LoopN
namespace Go.Proofs.Ytfkooohnaodjmaa
open Go.RowKit Go.Sort

def FreshX (w : World) (l : List ByteArray) (e : Ending) (w' : World) : Prop := ∃ v', e = .returned v' ∧ OwnX w' w.heap.size v' l ∧ Below w.heap.size w w'
theorem txt_one (l : List ByteArray) : ∀ u ∈ l.map Value.string, u.oneCell' = true := fun u hu => by
  obtain ⟨s, _, h⟩ := List.mem_map.1 hu
  rw [← h]; rfl

set_option maxRecDepth 100000 in
set_option maxHeartbeats 1000000 in
theorem texts_Clone (A : Option Addr) (n c : Nat) (l : List ByteArray) (w : World) (hr : Reads w w.heap.size 1 A n (l.map Value.string)) (hA : A = none → c = 0) (hlen : n ≤ 1000000) :
    Calls Try.prog 43 #[.slice A n c] w (FreshX w l) := by
  have hnl : l.length = n := by have := hr.1; simpa using this
  rcases A with _ | ad
  · have hc := hA rfl
    subst hc
    have h0 : n = 0 := by
      rcases Nat.eq_zero_or_pos n with h | h
      · exact h
      · obtain ⟨ad, h1, _⟩ := hr.2 h
        cases h1
    subst h0
    have hl := List.eq_nil_of_length_eq_zero hnl
    subst hl
    clear hr hA hnl
    have F : Hid (FreshX w [] (.returned (.slice none 0 0)) w) := Lib.hid ⟨_, rfl, OwnX.nil_ _ _, Below.refl _ _⟩
    have hq := fun (w : World) (a : Option Addr) (n c n' c' : Nat) => Lib.run_eql_slice_nil (P := Try.prog) w 49 9 a n c n' c' Try.underlying49
    go_enter Try.func43, Try.ntmps43
    go_wp2
    go_ret
    exact F.out
  · clear hA
    have HR := Lib.hid hr
    clear hr
    have hq := fun (w : World) (a : Option Addr) (n c n' c' : Nat) => Lib.run_eql_slice_nil (P := Try.prog) w 49 9 a n c n' c' Try.underlying49
    obtain ⟨i0, hi, hz0, hz1, hz2⟩ := info_parts info_stringX
    have HI := Lib.hid (And.intro hi (And.intro hz0 (And.intro hz1 hz2)))
    have HN := Lib.hid hnl
    clear hi hz0 hz1 hz2 hnl
    go_enter Try.func43, Try.ntmps43
    go_wp2_with (at_builtin; go_must (refine wpList_append_any _ rfl _ _ 49 rfl w.heap.size 9 i0 (.string ⟨#[]⟩) 1 16 Try.underlying49 HI.out.1 HI.out.2.1 HI.out.2.2.1 HI.out.2.2.2 rfl (by decide) (.slice (some ⟨w.heap.size, 0, none⟩) 0 0) 0 [] rfl (World.ownsRow_made w #[] 0 (Nat.le_refl _) (by decide) (by decide)) w.heap.size (some ad) n c (l.map Value.string) rfl (HR.out.alloc (Nat.le_refl _) _) (txt_one l) (by unfold maxLen; omega) (by omega) (by simp) ?_); intro v' w1 hown hg hlies)
    go_ret
    refine ⟨v', rfl, ?_, ?_⟩
    · unfold OwnX
      rw [Nat.zero_add, List.nil_append] at hown
      rw [HN.out]
      exact hown
    · refine Below.grown ((Below.refl _ _).alloc (Nat.le_refl _) _) hg (by simp) ?_
      intro k hk
      have h5 : w.heap.size = k := by simpa [Value.ownBlock] using hk
      omega

theorem own3 {w : World} {base g c : Nat} {x y z : ByteArray} (h : w.ownsRow base 9 1 (.slice (some ⟨g, 0, none⟩) 3 c) 3 [.string x, .string y, .string z]) :
    (w.cell? ⟨g, 0, none⟩ = some (.string x) ∧ w.cell? ⟨g, 1, none⟩ = some (.string y) ∧ w.cell? ⟨g, 2, none⟩ = some (.string z)) ∧ ∀ j, w.frozen? ⟨g, j, none⟩ = false :=
  ⟨⟨h.cellAt 0 (by decide), h.cellAt 1 (by decide), h.cellAt 2 (by decide)⟩, fun j => h.frozenAt j⟩

set_option maxRecDepth 100000 in
set_option maxHeartbeats 8000000 in
theorem insert3 (a b d : ByteArray) (g c base B : Nat) (w : World) (ho : w.ownsRow base 9 1 (.slice (some ⟨g, 0, none⟩) 3 c) 3 [.string a, .string b, .string d]) (hBg : B ≤ g) (hBw : B ≤ w.heap.size)
    (ha : a.size ≤ 10000000) (hb : b.size ≤ 10000000) (hd : d.size ≤ 10000000) (h1 : natC b a < 0) (h2 : natC d a < 0) (h3 : natC d b < 0) :
    Calls Try.prog 69 #[.slice (some ⟨g, 0, none⟩) 3 c, .int .i64 0, .int .i64 3, .func (.func 14) #[] #[]] w fun e w' => e = .returned (.tuple #[]) ∧ w'.ownsRow base 9 1 (.slice (some ⟨g, 0, none⟩) 3 c) 3 [.string d, .string b, .string a] ∧ Below B w w' := by
  obtain ⟨z1, hz1⟩ : ∃ z, natC b a = z := ⟨_, rfl⟩
  obtain ⟨z2, hz2⟩ : ∃ z, natC d a = z := ⟨_, rfl⟩
  obtain ⟨z3, hz3⟩ : ∃ z, natC d b = z := ⟨_, rfl⟩
  have hN1 := fun W => fold_Natural b a hb ha W
  have hN2 := fun W => fold_Natural d a hd ha W
  have hN3 := fun W => fold_Natural d b hd hb W
  rw [hz1] at hN1 h1
  rw [hz2] at hN2 h2
  rw [hz3] at hN3 h3
  have N1 := Lib.hid hN1
  have N2 := Lib.hid hN2
  have N3 := Lib.hid hN3
  have HO := Lib.hid ho
  have hBB : Below B w w := Below.refl _ _
  clear hN1 hN2 hN3 hz1 hz2 hz3 ho ha hb hd
  go_enter Try.func69, Try.ntmps69
  go_wp2_with fail
  refine wp_loop_rounds 4 ?_
  rw [rounds_succ]
  go_wp2_with fail
  refine wp_loop_rounds 2 ?_
  rw [rounds_succ]
  have C0 := (own3 HO.out).1
  have k1 : ∀ dd os, Calls Try.prog 14 #[.string b, .string a] (grow (redrawn w dd) os) fun e w'' => e = .returned (.int .i64 z1) ∧ ∃ p : Regrown, w'' = grow (redrawn w p.d) p.os := fun dd os => Calls.regrown_of (N1.out _)
  go_upto_region 4 with fail
  have q0 := cell_regrown C0.1
  have q1 := cell_regrown C0.2.1
  have q2 := cell_regrown C0.2.2
  refine wp_region_quiet_below (by kernel_rfl) (by kernel_rfl) ?_
  repeat (go_big_quiet_step (exact k1 _ _))
  refine wpQuiet_nil ?_
  rintro u1 ⟨⟨dq, osq⟩, hu1⟩
  have bq : Below w.heap.size w u1 := by rw [hu1]; exact below_regrown w dq osq
  replace HO := Lib.hid (own_below HO.out bq)
  replace hBB := hBB.trans (bq.mono (Nat.le_trans hBw hBB.size))
  clear hu1 bq q0 q1 q2 k1 C0
  go_upto_region 6 with fail
  have C0 := (own3 HO.out).1
  have F0 := (own3 HO.out).2
  have q0 : ∀ p : Kept (fun _ => True) u1.drew, p.v.cell? ⟨g, 0, none⟩ = some (.string a) := fun p => p.h.cell trivial C0.1
  have q1 : ∀ p : Kept (fun _ => True) u1.drew, p.v.cell? ⟨g, 1, none⟩ = some (.string b) := fun p => p.h.cell trivial C0.2.1
  have q2 : ∀ p : Kept (fun _ => True) u1.drew, p.v.cell? ⟨g, 2, none⟩ = some (.string d) := fun p => p.h.cell trivial C0.2.2
  have S1 := World.ownsRow.stored HO.out 1 (.string a)
  have S2 := World.ownsRow.stored S1.1 0 (.string b)
  have HS := Lib.hid (own_below (show ((u1.setCell ⟨g, 1, none⟩ (.string a)).setCell ⟨g, 0, none⟩ (.string b)).ownsRow base 9 1 (.slice (some ⟨g, 0, none⟩) 3 c) 3 [.string b, .string a, .string d] from S2.1) ((Below.refl _ _).drew))
  have HB := Lib.hid (below_drewN (below_set (below_set hBB hBg 1 (.string a)) hBg 0 (.string b)) 1)
  have c0 := C0.1
  have c1 := C0.2.1
  have c2 := C0.2.2
  have f0 := F0 0
  have f1 := F0 1
  have f2 := F0 2
  clear C0 S1 S2 F0
  clear q0 q1 q2
  go_big_region
  go_wp2_with fail
  clear c0 c1 c2 f0 f1 f2
  replace HO := HS
  replace hBB := HB.out
  clear HS HB
  obtain ⟨u2, hu2⟩ : ∃ q, ((u1.setCell ⟨g, 1, none⟩ (.string a)).setCell ⟨g, 0, none⟩ (.string b)).drew = q := ⟨_, rfl⟩
  rw [hu2] at HO ⊢
  rw [show ((u1.setCell ⟨g, 1, none⟩ (.string a)).setCell ⟨g, 0, none⟩ (.string b)).drewN 1 = u2 from hu2] at hBB
  clear hu2
  rw [rounds_succ]
  go_upto_region 4 with fail
  go_region
  replace HO := Lib.hid (own_below HO.out ((Below.refl u2.heap.size u2).drew))
  replace hBB := below_drewN hBB 1
  go_wp2_with fail
  obtain ⟨u3, hu3⟩ : ∃ q, u2.drew = q := ⟨_, rfl⟩
  rw [hu3] at HO ⊢
  rw [show u2.drewN 1 = u3 from hu3] at hBB
  clear hu3
  rw [rounds_succ]
  go_wp2_with fail
  refine wp_loop_rounds 3 ?_
  rw [rounds_succ]
  have C0 := (own3 HO.out).1
  have k1 : ∀ dd os, Calls Try.prog 14 #[.string d, .string a] (grow (redrawn u3 dd) os) fun e w'' => e = .returned (.int .i64 z2) ∧ ∃ p : Regrown, w'' = grow (redrawn u3 p.d) p.os := fun dd os => Calls.regrown_of (N2.out _)
  go_upto_region 4 with fail
  have q0 := cell_regrown C0.1
  have q1 := cell_regrown C0.2.1
  have q2 := cell_regrown C0.2.2
  refine wp_region_quiet_below (by kernel_rfl) (by kernel_rfl) ?_
  repeat (go_big_quiet_step (exact k1 _ _))
  refine wpQuiet_nil ?_
  rintro u4 ⟨⟨dq, osq⟩, hu4⟩
  have bq : Below u3.heap.size u3 u4 := by rw [hu4]; exact below_regrown u3 dq osq
  replace HO := Lib.hid (own_below HO.out bq)
  replace hBB := hBB.trans (bq.mono (Nat.le_trans hBw hBB.size))
  clear hu4 bq q0 q1 q2 k1 C0
  go_upto_region 6 with fail
  have C0 := (own3 HO.out).1
  have F0 := (own3 HO.out).2
  have q0 : ∀ p : Kept (fun _ => True) u4.drew, p.v.cell? ⟨g, 0, none⟩ = some (.string b) := fun p => p.h.cell trivial C0.1
  have q1 : ∀ p : Kept (fun _ => True) u4.drew, p.v.cell? ⟨g, 1, none⟩ = some (.string a) := fun p => p.h.cell trivial C0.2.1
  have q2 : ∀ p : Kept (fun _ => True) u4.drew, p.v.cell? ⟨g, 2, none⟩ = some (.string d) := fun p => p.h.cell trivial C0.2.2
  have S1 := World.ownsRow.stored HO.out 2 (.string a)
  have S2 := World.ownsRow.stored S1.1 1 (.string d)
  have HS := Lib.hid (own_below (show ((u4.setCell ⟨g, 2, none⟩ (.string a)).setCell ⟨g, 1, none⟩ (.string d)).ownsRow base 9 1 (.slice (some ⟨g, 0, none⟩) 3 c) 3 [.string b, .string d, .string a] from S2.1) ((Below.refl _ _).drew))
  have HB := Lib.hid (below_drewN (below_set (below_set hBB hBg 2 (.string a)) hBg 1 (.string d)) 1)
  have c0 := C0.1
  have c1 := C0.2.1
  have c2 := C0.2.2
  have f0 := F0 0
  have f1 := F0 1
  have f2 := F0 2
  clear C0 S1 S2 F0
  clear q0 q1 q2
  go_big_region
  go_wp2_with fail
  clear c0 c1 c2 f0 f1 f2
  replace HO := HS
  replace hBB := HB.out
  clear HS HB
  obtain ⟨u5, hu5⟩ : ∃ q, ((u4.setCell ⟨g, 2, none⟩ (.string a)).setCell ⟨g, 1, none⟩ (.string d)).drew = q := ⟨_, rfl⟩
  rw [hu5] at HO ⊢
  rw [show ((u4.setCell ⟨g, 2, none⟩ (.string a)).setCell ⟨g, 1, none⟩ (.string d)).drewN 1 = u5 from hu5] at hBB
  clear hu5
  rw [rounds_succ]
  have C0 := (own3 HO.out).1
  have k1 : ∀ dd os, Calls Try.prog 14 #[.string d, .string b] (grow (redrawn u5 dd) os) fun e w'' => e = .returned (.int .i64 z3) ∧ ∃ p : Regrown, w'' = grow (redrawn u5 p.d) p.os := fun dd os => Calls.regrown_of (N3.out _)
  go_upto_region 4 with fail
  have q0 := cell_regrown C0.1
  have q1 := cell_regrown C0.2.1
  have q2 := cell_regrown C0.2.2
  refine wp_region_quiet_below (by kernel_rfl) (by kernel_rfl) ?_
  repeat (go_big_quiet_step (exact k1 _ _))
  refine wpQuiet_nil ?_
  rintro u6 ⟨⟨dq, osq⟩, hu6⟩
  have bq : Below u5.heap.size u5 u6 := by rw [hu6]; exact below_regrown u5 dq osq
  replace HO := Lib.hid (own_below HO.out bq)
  replace hBB := hBB.trans (bq.mono (Nat.le_trans hBw hBB.size))
  clear hu6 bq q0 q1 q2 k1 C0
  go_upto_region 6 with fail
  have C0 := (own3 HO.out).1
  have F0 := (own3 HO.out).2
  have q0 : ∀ p : Kept (fun _ => True) u6.drew, p.v.cell? ⟨g, 0, none⟩ = some (.string b) := fun p => p.h.cell trivial C0.1
  have q1 : ∀ p : Kept (fun _ => True) u6.drew, p.v.cell? ⟨g, 1, none⟩ = some (.string d) := fun p => p.h.cell trivial C0.2.1
  have q2 : ∀ p : Kept (fun _ => True) u6.drew, p.v.cell? ⟨g, 2, none⟩ = some (.string a) := fun p => p.h.cell trivial C0.2.2
  have S1 := World.ownsRow.stored HO.out 1 (.string b)
  have S2 := World.ownsRow.stored S1.1 0 (.string d)
  have HS := Lib.hid (own_below (show ((u6.setCell ⟨g, 1, none⟩ (.string b)).setCell ⟨g, 0, none⟩ (.string d)).ownsRow base 9 1 (.slice (some ⟨g, 0, none⟩) 3 c) 3 [.string d, .string b, .string a] from S2.1) ((Below.refl _ _).drew))
  have HB := Lib.hid (below_drewN (below_set (below_set hBB hBg 1 (.string b)) hBg 0 (.string d)) 1)
  have c0 := C0.1
  have c1 := C0.2.1
  have c2 := C0.2.2
  have f0 := F0 0
  have f1 := F0 1
  have f2 := F0 2
  clear C0 S1 S2 F0
  clear q0 q1 q2
  go_big_region
  go_wp2_with fail
  clear c0 c1 c2 f0 f1 f2
  replace HO := HS
  replace hBB := HB.out
  clear HS HB
  obtain ⟨u7, hu7⟩ : ∃ q, ((u6.setCell ⟨g, 1, none⟩ (.string b)).setCell ⟨g, 0, none⟩ (.string d)).drew = q := ⟨_, rfl⟩
  rw [hu7] at HO ⊢
  rw [show ((u6.setCell ⟨g, 1, none⟩ (.string b)).setCell ⟨g, 0, none⟩ (.string d)).drewN 1 = u7 from hu7] at hBB
  clear hu7
  rw [rounds_succ]
  go_upto_region 4 with fail
  go_region
  replace HO := Lib.hid (own_below HO.out ((Below.refl u7.heap.size u7).drew))
  replace hBB := below_drewN hBB 1
  go_wp2_with fail
  obtain ⟨u8, hu8⟩ : ∃ q, u7.drew = q := ⟨_, rfl⟩
  rw [hu8] at HO ⊢
  rw [show u7.drewN 1 = u8 from hu8] at hBB
  clear hu8
  rw [rounds_succ]
  go_wp2_with fail
  go_end0
  exact ⟨rfl, HO.out, hBB⟩

set_option maxRecDepth 100000 in
set_option maxHeartbeats 2000000 in
theorem sort3 (a b d : ByteArray) (g c base B : Nat) (w : World) (ho : w.ownsRow base 9 1 (.slice (some ⟨g, 0, none⟩) 3 c) 3 [.string a, .string b, .string d]) (hBg : B ≤ g) (hBw : B ≤ w.heap.size)
    (ha : a.size ≤ 10000000) (hb : b.size ≤ 10000000) (hd : d.size ≤ 10000000) (h1 : natC b a < 0) (h2 : natC d a < 0) (h3 : natC d b < 0) :
    Calls Try.prog 44 #[.slice (some ⟨g, 0, none⟩) 3 c, .func (.func 14) #[] #[]] w fun e w' => e = .returned (.tuple #[]) ∧ w'.ownsRow base 9 1 (.slice (some ⟨g, 0, none⟩) 3 c) 3 [.string d, .string b, .string a] ∧ Below B w w' := by
  have HI := Lib.hid (insert3 a b d g c base B w ho hBg hBw ha hb hd h1 h2 h3)
  have HP : Hid (∀ lim : Int, Calls Try.prog 62 #[.slice (some ⟨g, 0, none⟩) 3 c, .int .i64 0, .int .i64 3, .int .i64 lim, .func (.func 14) #[] #[]] w fun e w' => e = .returned (.tuple #[]) ∧ w'.ownsRow base 9 1 (.slice (some ⟨g, 0, none⟩) 3 c) 3 [.string d, .string b, .string a] ∧ Below B w w') := Lib.hid (fun lim => by
    clear ho h1 h2 h3
    go_enter Try.func62, Try.ntmps62
    go_wp2_with fail
    refine wp_loop_rounds 1 ?_
    rw [rounds_succ]
    go_wp2_with fail
    refine HI.out.mono ?_
    rintro e w1 ⟨rfl, o1, b1⟩
    have O1 := Lib.hid o1
    clear o1
    go_wp2_with fail
    (try simp only [Exit.inBlock, Exit.then])
    refine bodyPost_ret (results_none rfl _ _ _) rfl ?_
    exact ⟨rfl, O1.out, b1⟩)
  clear HI ho h1 h2 h3
  have HL := Lib.hid (Try.bits_Len 3 w (by omega) (by omega))
  go_enter Try.func44, Try.ntmps44
  go_wp2_with fail
  refine HL.out.mono ?_
  rintro e w1 ⟨rfl, rfl⟩
  go_wp2_with fail
  refine (HP.out _).mono ?_
  rintro e w1 ⟨rfl, o1, b1⟩
  have O1 := Lib.hid o1
  clear o1
  go_wp2_with fail
  go_end0
  exact ⟨rfl, O1.out, b1⟩

theorem text_neX {a b : ByteArray} (h : a ≠ b) : (a.toList == b.toList) = false := beq_eq_false_iff_ne.2 (fun h2 => h (text_ext h2))

set_option maxRecDepth 100000 in
set_option maxHeartbeats 2000000 in
theorem compact3 (a b d : ByteArray) (g c base : Nat) (w : World) (ho : w.ownsRow base 9 1 (.slice (some ⟨g, 0, none⟩) 3 c) 3 [.string a, .string b, .string d]) (h1 : a ≠ b) (h2 : b ≠ d) :
    Calls Try.prog 45 #[.slice (some ⟨g, 0, none⟩) 3 c] w fun e w' => e = .returned (.slice (some ⟨g, 0, none⟩) 3 c) ∧ Below w.heap.size w w' := by
  have C := (own3 ho).1
  have e1 := text_neX (Ne.symm h1)
  have e2 := text_neX (Ne.symm h2)
  have p0 : ∀ m, (w.drewN m).cell? ⟨g, 0, none⟩ = some (.string a) := fun _ => C.1
  have p1 : ∀ m, (w.drewN m).cell? ⟨g, 1, none⟩ = some (.string b) := fun _ => C.2.1
  have p2 : ∀ m, (w.drewN m).cell? ⟨g, 2, none⟩ = some (.string d) := fun _ => C.2.2
  clear C ho h1 h2
  go_enter Try.func45, Try.ntmps45
  go_wp2_with fail
  refine wp_loop_rounds 3 ?_
  rw [rounds_succ]
  go_wp2_with fail
  go_quiet (fail)
  go_wp2_with fail
  have p1' : ∀ m, ((w.drewN nq).drewN m).cell? ⟨g, 1, none⟩ = some (.string b) := fun m => by rw [World.drewN_drewN]; exact p1 _
  have p2' : ∀ m, ((w.drewN nq).drewN m).cell? ⟨g, 2, none⟩ = some (.string d) := fun m => by rw [World.drewN_drewN]; exact p2 _
  rw [rounds_succ]
  go_wp2_with fail
  go_quiet (fail)
  go_wp2_with fail
  rw [rounds_succ]
  go_wp2_with fail
  go_ret
  exact ⟨rfl, below_drewN (Below.refl _ _) _⟩

set_option maxRecDepth 100000 in
set_option maxHeartbeats 2000000 in
theorem fold_Sort3 (a b d : ByteArray) (ad : Addr) (cc : Nat) (w : World) (hr : Reads w w.heap.size 1 (some ad) 3 ([a, b, d].map Value.string))
    (ha : a.size ≤ 10000000) (hb : b.size ≤ 10000000) (hd : d.size ≤ 10000000) (h1 : natC b a < 0) (h2 : natC d a < 0) (h3 : natC d b < 0) :
    Calls Try.prog 17 #[.slice (some ad) 3 cc] w fun e w' => ∃ g c, e = .returned (.slice (some ⟨g, 0, none⟩) 3 c) ∧ OwnX w' w.heap.size (.slice (some ⟨g, 0, none⟩) 3 c) [d, b, a] ∧ Below w.heap.size w w' := by
  have hne : ∀ x y : ByteArray, natC x y < 0 → x ≠ y := fun x y h e => by
    have := (natC_zero x y).2 e
    omega
  have n1 := hne _ _ h3
  have n2 := hne _ _ h1
  have HC := Lib.hid (texts_Clone (some ad) 3 cc [a, b, d] w hr (fun h => by cases h) (by omega))
  clear hr hne
  go_enter Try.func17, Try.ntmps17
  go_wp2_with fail
  refine HC.out.mono ?_
  rintro e w1 ⟨v1, rfl, o1, b1⟩
  obtain ⟨A1, c1, rfl, -, -, hg⟩ := o1.form
  obtain ⟨g, rfl, hg1, hg2⟩ := hg (by simp)
  have HS := Lib.hid (sort3 a b d g c1 w.heap.size w.heap.size w1 o1 hg1 b1.size ha hb hd h1 h2 h3)
  clear o1 h1 h2 h3 HC
  go_wp2_with fail
  refine HS.out.mono ?_
  rintro e w2 ⟨rfl, o2, b2⟩
  have HK := Lib.hid (compact3 d b a g c1 w.heap.size w2 o2 n1 n2)
  have O2 := Lib.hid o2
  have hB := b1.trans b2
  clear o2 HS n1 n2
  go_wp2_with fail
  refine HK.out.mono ?_
  rintro e w3 ⟨rfl, b3⟩
  go_wp2_with fail
  go_ret
  exact ⟨g, c1, rfl, own_below O2.out b3, hB.trans (b3.mono hB.size)⟩
end Go.Proofs.Ytfkooohnaodjmaa
