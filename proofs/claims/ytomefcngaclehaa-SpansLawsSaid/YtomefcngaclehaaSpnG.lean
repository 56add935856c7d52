/- slices.Equal over spans; All, Same, Covers of a set. -/
import Derived.Test.YtomefcngaclehaaSpnF
import Derived.Laws.StructEq
namespace Go.Proofs.Ytomefcngaclehaa
open Go.RowKit Go.Sort
attribute [local go_sem] lt_T lo_T not_ltT not_leT

theorem spans_Equal_eq (w : World) (a0 a1 b0 b1 : ByteArray) : (Op.equalIn 10000 41 (.agg #[.string a0, .string a1]) (.agg #[.string b0, .string b1])).run Try.prog w = .ok (decide (((a0, a1) : Sp) = (b0, b1))) w := by
  have u9 := Try.underlying9
  have hS : Try.prog.underlying 41 = some (.struct (Try.prog.fieldsOf 41)) := by kernel_rfl
  have hp : Try.prog.stoodInHeld 41 = false := by kernel_rfl
  rw [show (10000 : Nat) = 9999 + 1 from rfl, run_equalIn_agg w 9999 41 _ _ hS hp]
  simp only [Program.fieldsOf, Try.underlying41]
  have e : (decide (((a0, a1) : Sp) = (b0, b1))) = (a0.toList == b0.toList && a1.toList == b1.toList) := by
    rw [Bool.eq_iff_iff]
    simp only [decide_eq_true_eq, Bool.and_eq_true, beq_iff_eq, Prod.mk.injEq]
    exact ⟨fun h => by rw [h.1, h.2]; exact ⟨rfl, rfl⟩, fun h => ⟨text_extP h.1, text_extP h.2⟩⟩
  rw [e]
  clear e
  by_cases h1 : a0.toList = b0.toList <;> by_cases h2 : a1.toList = b1.toList <;> go_simp <;> simp [h1, h2]

set_option maxRecDepth 100000 in
set_option maxHeartbeats 1000000 in
theorem spans_Equal (A1 A2 : Option Addr) (n1 n2 c1 c2 : Nat) (l1 l2 : List Sp) (w : World) (h1 : RdP w A1 l1) (h2 : RdP w A2 l2) (e1 : l1.length = n1) (e2 : l2.length = n2) (hm : n1 ≤ 1000000000) (hm2 : n2 ≤ 1000000000) :
    Calls Try.prog 58 #[.slice A1 n1 c1, .slice A2 n2 c2] w fun e w' => e = .returned (.bool (decide (l1 = l2))) ∧ Below w.heap.size w w' := by
  obtain ⟨r, hr⟩ : ∃ r, decide (l1 = l2) = r := ⟨_, rfl⟩
  rw [hr]
  have HR := Lib.hid hr
  have H1 := Lib.hid h1
  have H2 := Lib.hid h2
  have E1 := Lib.hid e1
  have E2 := Lib.hid e2
  clear hr h1 h2 e1 e2
  by_cases hn : n1 = n2
  · subst hn
    have hnn : ((n1 : Int) != (n1 : Int)) = false := by simp
    go_enter Try.func58, Try.ntmps58
    go_wp2_with fail
    go_loopw [13] (fun v13 wr => ∃ k m : Nat, v13 = .int .i64 k ∧ k ≤ n1 ∧ l1.take k = l2.take k ∧ wr = w.drewN m) (fun v13 _ => n1 - (intOf v13).toNat)
    case atStart => exact ⟨0, 0, rfl, Nat.zero_le _, by simp, rfl⟩
    case round =>
      obtain ⟨k, m, rfl, hk, ht, rfl⟩ := hrel
      have HT := Lib.hid ht
      clear ht
      by_cases hkn : k < n1
      · have k1 : k < l1.length := by have := E1.out; omega
        have k2 : k < l2.length := by have := E2.out; omega
        obtain ⟨b1, o1, rfl, _, hc1⟩ := H1.out.at_ (by omega)
        obtain ⟨b2, o2, rfl, _, hc2⟩ := H2.out.at_ (by omega)
        obtain ⟨p0, p1⟩ := hc1 k k1
        obtain ⟨q0, q1⟩ := hc2 k k2
        obtain ⟨x, hx⟩ : ∃ x, l1[k]'k1 = x := ⟨_, rfl⟩
        obtain ⟨y, hy⟩ : ∃ y, l2[k]'k2 = y := ⟨_, rfl⟩
        rw [hx] at p0 p1
        rw [hy] at q0 q1
        have HS : Hid (x = y → l1.take (k + 1) = l2.take (k + 1)) := Lib.hid (fun h => by rw [List.take_succ_eq_append_getElem k1, List.take_succ_eq_append_getElem k2, HT.out, hx, hy, h])
        have HD : Hid (x ≠ y → r = false) := Lib.hid (fun h => by rw [← HR.out]; exact decide_eq_false (fun h9 => h (by rw [← hx, ← hy]; subst h9; rfl)))
        obtain ⟨x1, x2⟩ := x
        obtain ⟨y1, y2⟩ := y
        dsimp only at p0 p1 q0 q1
        have p0' : ∀ m, (w.drewN m).cell? ⟨b1, o1 + k * 2, none⟩ = some (.string x1) := fun _ => p0
        have p1' : ∀ m, (w.drewN m).cell? ⟨b1, o1 + k * 2 + 1, none⟩ = some (.string x2) := fun _ => p1
        have q0' : ∀ m, (w.drewN m).cell? ⟨b2, o2 + k * 2, none⟩ = some (.string y1) := fun _ => q0
        have q1' : ∀ m, (w.drewN m).cell? ⟨b2, o2 + k * 2 + 1, none⟩ = some (.string y2) := fun _ => q1
        clear hc1 hc2 p0 p1 q0 q1 hx hy
        by_cases g1 : x1 = y1
        · by_cases g2 : x2 = y2
          · subst g1 g2
            have HS2 := Lib.hid (HS.out rfl)
            clear HS HD
            go_wp2_with fail
            go_quiet (fail)
            go_wp2_with fail
            go_roundw
            case rel => exact ⟨k + 1, _, by go_num, by omega, HS2.out, rfl⟩
            case measure => simp [intOf]; omega
          · have HD2 := Lib.hid (HD.out (fun h => g2 (congrArg Prod.snd h)))
            have hE : ∀ w, (Op.equalIn 10000 41 (.agg #[.string x1, .string x2]) (.agg #[.string y1, .string y2])).run Try.prog w = .ok false w := fun w => by rw [spans_Equal_eq w x1 x2 y1 y2, decide_eq_false (fun h => g2 (congrArg Prod.snd h))]
            clear g1 g2 HS HD
            go_wp2_with fail
            go_quiet (fail)
            go_wp2_with fail
            go_ret
            exact ⟨ret_bool' HD2.out.symm, below_drewN (below_drewN (Below.refl _ _) _) _⟩
        · have HD2 := Lib.hid (HD.out (fun h => g1 (congrArg Prod.fst h)))
          have hE : ∀ w, (Op.equalIn 10000 41 (.agg #[.string x1, .string x2]) (.agg #[.string y1, .string y2])).run Try.prog w = .ok false w := fun w => by rw [spans_Equal_eq w x1 x2 y1 y2, decide_eq_false (fun h => g1 (congrArg Prod.fst h))]
          clear g1 HS HD
          go_wp2_with fail
          go_quiet (fail)
          go_wp2_with fail
          go_ret
          exact ⟨ret_bool' HD2.out.symm, below_drewN (below_drewN (Below.refl _ _) _) _⟩
      · have hkn : k = n1 := by omega
        subst hkn
        have HT2 : Hid (true = r) := Lib.hid (by
          have h := HT.out
          rw [List.take_of_length_le (by have := E1.out; omega), List.take_of_length_le (by have := E2.out; omega)] at h
          rw [← HR.out, h]
          simp)
        go_wp2_with fail
        go_ret
        exact ⟨ret_bool' HT2.out, below_drewN (Below.refl _ _) _⟩
  · have HD : Hid (false = r) := Lib.hid (by rw [← HR.out]; exact (decide_eq_false (fun h => hn (by rw [← E1.out, ← E2.out, h]))).symm)
    have hnn : ((n1 : Int) != (n2 : Int)) = true := by
      rw [bne_iff_ne]
      omega
    clear hn
    go_enter Try.func58, Try.ntmps58
    go_wp2_with fail
    go_ret
    exact ⟨ret_bool' HD.out, Below.refl _ _⟩

theorem s46_Equal_eq (w : World) (a0 a1 b0 b1 : ByteArray) : (Op.equalIn 10000 45 (.agg #[.string a0, .string a1]) (.agg #[.string b0, .string b1])).run Try.prog w = .ok (decide (((a0, a1) : Sp) = (b0, b1))) w := by
  have u9 := Try.underlying9
  have hS : Try.prog.underlying 45 = some (.struct (Try.prog.fieldsOf 45)) := by kernel_rfl
  have hp : Try.prog.stoodInHeld 45 = false := by kernel_rfl
  rw [show (10000 : Nat) = 9999 + 1 from rfl, run_equalIn_agg w 9999 45 _ _ hS hp]
  simp only [Program.fieldsOf, Try.underlying45]
  have e : (decide (((a0, a1) : Sp) = (b0, b1))) = (a0.toList == b0.toList && a1.toList == b1.toList) := by
    rw [Bool.eq_iff_iff]
    simp only [decide_eq_true_eq, Bool.and_eq_true, beq_iff_eq, Prod.mk.injEq]
    exact ⟨fun h => by rw [h.1, h.2]; exact ⟨rfl, rfl⟩, fun h => ⟨text_extP h.1, text_extP h.2⟩⟩
  rw [e]
  clear e
  by_cases h1 : a0.toList = b0.toList <;> by_cases h2 : a1.toList = b1.toList <;> go_simp <;> simp [h1, h2]

set_option maxRecDepth 100000 in
set_option maxHeartbeats 1000000 in
theorem s46_Equal (A1 A2 : Option Addr) (n1 n2 c1 c2 : Nat) (l1 l2 : List Sp) (w : World) (h1 : RdP w A1 l1) (h2 : RdP w A2 l2) (e1 : l1.length = n1) (e2 : l2.length = n2) (hm : n1 ≤ 1000000000) (hm2 : n2 ≤ 1000000000) :
    Calls Try.prog 31 #[.slice A1 n1 c1, .slice A2 n2 c2] w fun e w' => e = .returned (.bool (decide (l1 = l2))) ∧ Below w.heap.size w w' := by
  obtain ⟨r, hr⟩ : ∃ r, decide (l1 = l2) = r := ⟨_, rfl⟩
  rw [hr]
  have HR := Lib.hid hr
  have H1 := Lib.hid h1
  have H2 := Lib.hid h2
  have E1 := Lib.hid e1
  have E2 := Lib.hid e2
  clear hr h1 h2 e1 e2
  by_cases hn : n1 = n2
  · subst hn
    have hnn : ((n1 : Int) != (n1 : Int)) = false := by simp
    go_enter Try.func31, Try.ntmps31
    go_wp2_with fail
    go_loopw [13] (fun v13 wr => ∃ k m : Nat, v13 = .int .i64 k ∧ k ≤ n1 ∧ l1.take k = l2.take k ∧ wr = w.drewN m) (fun v13 _ => n1 - (intOf v13).toNat)
    case atStart => exact ⟨0, 0, rfl, Nat.zero_le _, by simp, rfl⟩
    case round =>
      obtain ⟨k, m, rfl, hk, ht, rfl⟩ := hrel
      have HT := Lib.hid ht
      clear ht
      by_cases hkn : k < n1
      · have k1 : k < l1.length := by have := E1.out; omega
        have k2 : k < l2.length := by have := E2.out; omega
        obtain ⟨b1, o1, rfl, _, hc1⟩ := H1.out.at_ (by omega)
        obtain ⟨b2, o2, rfl, _, hc2⟩ := H2.out.at_ (by omega)
        obtain ⟨p0, p1⟩ := hc1 k k1
        obtain ⟨q0, q1⟩ := hc2 k k2
        obtain ⟨x, hx⟩ : ∃ x, l1[k]'k1 = x := ⟨_, rfl⟩
        obtain ⟨y, hy⟩ : ∃ y, l2[k]'k2 = y := ⟨_, rfl⟩
        rw [hx] at p0 p1
        rw [hy] at q0 q1
        have HS : Hid (x = y → l1.take (k + 1) = l2.take (k + 1)) := Lib.hid (fun h => by rw [List.take_succ_eq_append_getElem k1, List.take_succ_eq_append_getElem k2, HT.out, hx, hy, h])
        have HD : Hid (x ≠ y → r = false) := Lib.hid (fun h => by rw [← HR.out]; exact decide_eq_false (fun h9 => h (by rw [← hx, ← hy]; subst h9; rfl)))
        obtain ⟨x1, x2⟩ := x
        obtain ⟨y1, y2⟩ := y
        dsimp only at p0 p1 q0 q1
        have p0' : ∀ m, (w.drewN m).cell? ⟨b1, o1 + k * 2, none⟩ = some (.string x1) := fun _ => p0
        have p1' : ∀ m, (w.drewN m).cell? ⟨b1, o1 + k * 2 + 1, none⟩ = some (.string x2) := fun _ => p1
        have q0' : ∀ m, (w.drewN m).cell? ⟨b2, o2 + k * 2, none⟩ = some (.string y1) := fun _ => q0
        have q1' : ∀ m, (w.drewN m).cell? ⟨b2, o2 + k * 2 + 1, none⟩ = some (.string y2) := fun _ => q1
        clear hc1 hc2 p0 p1 q0 q1 hx hy
        by_cases g1 : x1 = y1
        · by_cases g2 : x2 = y2
          · subst g1 g2
            have HS2 := Lib.hid (HS.out rfl)
            clear HS HD
            go_wp2_with fail
            go_quiet (fail)
            go_wp2_with fail
            go_roundw
            case rel => exact ⟨k + 1, _, by go_num, by omega, HS2.out, rfl⟩
            case measure => simp [intOf]; omega
          · have HD2 := Lib.hid (HD.out (fun h => g2 (congrArg Prod.snd h)))
            have hE : ∀ w, (Op.equalIn 10000 45 (.agg #[.string x1, .string x2]) (.agg #[.string y1, .string y2])).run Try.prog w = .ok false w := fun w => by rw [s46_Equal_eq w x1 x2 y1 y2, decide_eq_false (fun h => g2 (congrArg Prod.snd h))]
            clear g1 g2 HS HD
            go_wp2_with fail
            go_quiet (fail)
            go_wp2_with fail
            go_ret
            exact ⟨ret_bool' HD2.out.symm, below_drewN (below_drewN (Below.refl _ _) _) _⟩
        · have HD2 := Lib.hid (HD.out (fun h => g1 (congrArg Prod.fst h)))
          have hE : ∀ w, (Op.equalIn 10000 45 (.agg #[.string x1, .string x2]) (.agg #[.string y1, .string y2])).run Try.prog w = .ok false w := fun w => by rw [s46_Equal_eq w x1 x2 y1 y2, decide_eq_false (fun h => g1 (congrArg Prod.fst h))]
          clear g1 HS HD
          go_wp2_with fail
          go_quiet (fail)
          go_wp2_with fail
          go_ret
          exact ⟨ret_bool' HD2.out.symm, below_drewN (below_drewN (Below.refl _ _) _) _⟩
      · have hkn : k = n1 := by omega
        subst hkn
        have HT2 : Hid (true = r) := Lib.hid (by
          have h := HT.out
          rw [List.take_of_length_le (by have := E1.out; omega), List.take_of_length_le (by have := E2.out; omega)] at h
          rw [← HR.out, h]
          simp)
        go_wp2_with fail
        go_ret
        exact ⟨ret_bool' HT2.out, below_drewN (Below.refl _ _) _⟩
  · have HD : Hid (false = r) := Lib.hid (by rw [← HR.out]; exact (decide_eq_false (fun h => hn (by rw [← E1.out, ← E2.out, h]))).symm)
    have hnn : ((n1 : Int) != (n2 : Int)) = true := by
      rw [bne_iff_ne]
      omega
    clear hn
    go_enter Try.func31, Try.ntmps31
    go_wp2_with fail
    go_ret
    exact ⟨ret_bool' HD.out, Below.refl _ _⟩

set_option maxRecDepth 100000 in
theorem set_All (A : Option Addr) (n c : Nat) (l : List Sp) (w : World) (hr : RdP w A l) (hnl : l.length = n) (hA : A = none → c = 0) (hlen : n ≤ 1000000000) :
    Calls Try.prog 35 #[.agg #[.slice A n c]] w (FreshP w l) := by
  have B0 := Blk.new w 43 #[.slice A n c]
  have bA := (Below.refl w.heap.size w).alloc (Nat.le_refl _) (.cells #[.slice A n c] 43)
  have HC := Lib.hid (spans_Clone A n c l (w.alloc (.cells #[.slice A n c] 43)) (hr.below bA) hnl hA hlen)
  have q0 := B0.cell 0
  clear B0
  go_enter Try.func35, Try.ntmps35
  go_wp2_with fail
  refine HC.out.mono ?_
  rintro e w1 ⟨v1, rfl, o1, b1⟩
  go_wp2_with fail
  go_ret
  exact ⟨v1, rfl, o1.base_le bA.size, bA.trans (b1.mono bA.size)⟩

set_option maxRecDepth 100000 in
theorem set_Same (A1 A2 : Option Addr) (n1 n2 c1 c2 : Nat) (l1 l2 : List Sp) (w : World) (h1 : RdP w A1 l1) (h2 : RdP w A2 l2) (e1 : l1.length = n1) (e2 : l2.length = n2) (hm : n1 ≤ 1000000000) (hm2 : n2 ≤ 1000000000) :
    Calls Try.prog 30 #[.agg #[.slice A1 n1 c1], .agg #[.slice A2 n2 c2]] w fun e w' => e = .returned (.bool (decide (l1 = l2))) ∧ Below w.heap.size w w' := by
  have B0 := (Blk.new w 43 #[.slice A1 n1 c1]).alloc (.cells #[.slice A2 n2 c2] 43)
  have B1 := Blk.new (w.alloc (.cells #[.slice A1 n1 c1] 43)) 43 #[.slice A2 n2 c2]
  have bA := ((Below.refl w.heap.size w).alloc (Nat.le_refl _) (.cells #[.slice A1 n1 c1] 43)).alloc (by rw [World.size_alloc]; omega) (.cells #[.slice A2 n2 c2] 43)
  have HC := Lib.hid (spans_Equal A1 A2 n1 n2 c1 c2 l1 l2 ((w.alloc (.cells #[.slice A1 n1 c1] 43)).alloc (.cells #[.slice A2 n2 c2] 43)) (h1.below bA) (h2.below bA) e1 e2 hm hm2)
  rw [World.size_alloc] at B1
  have q0 := B0.cell 0
  have q1 := B1.cell 0
  clear B0 B1
  go_enter Try.func30, Try.ntmps30
  go_wp2_with fail
  refine HC.out.mono ?_
  rintro e w1 ⟨rfl, b1⟩
  go_wp2_with fail
  go_ret
  exact ⟨rfl, bA.trans (b1.mono bA.size)⟩

set_option maxRecDepth 100000 in
set_option maxHeartbeats 1000000 in
theorem set_Covers (A : Option Addr) (n c : Nat) (l : List Sp) (x1 x2 : ByteArray) (w : World) (hr : RdP w A l) (hnl : l.length = n) (hlen : n ≤ 1000000000) :
    Calls Try.prog 26 #[.agg #[.slice A n c], .agg #[.string x1, .string x2]] w fun e w' => e = .returned (.bool (covL cmpT l (x1, x2))) ∧ Below w.heap.size w w' := by
  have B0 := (Blk.new w 43 #[.slice A n c]).alloc (.cells #[.string x1, .string x2] 41)
  have B1 := Blk.new (w.alloc (.cells #[.slice A n c] 43)) 41 #[.string x1, .string x2]
  have bA := ((Below.refl w.heap.size w).alloc (Nat.le_refl _) (.cells #[.slice A n c] 43)).alloc (by rw [World.size_alloc]; omega) (.cells #[.string x1, .string x2] 41)
  rw [World.size_alloc] at B1
  have HC := Lib.hid (spans_ContainsFunc A n c l ((w.alloc (.cells #[.slice A n c] 43)).alloc (.cells #[.string x1, .string x2] 41)) _ 57 #[.pointer (some ⟨w.heap.size + 1, 0, none⟩)] (fun y => decide (cmpT y.1 x1 ≤ 0) && decide (cmpT x2 y.2 ≤ 0)) (enters_of Try.func57 (by kernel_rfl) rfl) (hr.below bA) hnl (Nat.le_refl _) hlen
    (fun W a b hb => covers1 x1 x2 (w.heap.size + 1) a b W (hb_cell hb (B1.cell 0)) (hb_cell hb (B1.cell 1))))
  have q0 := B0.cell 0
  have q1 := B1.cell 0
  have q2 := B1.cell 1
  have hE : covL cmpT l (x1, x2) = (leT x2 x1 || l.any fun y => decide (cmpT y.1 x1 ≤ 0) && decide (cmpT x2 y.2 ≤ 0)) := rfl
  rw [hE]
  obtain ⟨r, hr⟩ : ∃ r, (l.any fun y => decide (cmpT y.1 x1 ≤ 0) && decide (cmpT x2 y.2 ≤ 0)) = r := ⟨_, rfl⟩
  rw [hr] at HC ⊢
  clear B0 B1 hE hr
  cases h : leT x2 x1 with
  | true =>
    go_enter Try.func26, Try.ntmps26
    go_wp2_with fail
    go_ret
    exact ⟨rfl, bA⟩
  | false =>
    go_enter Try.func26, Try.ntmps26
    go_wp2_with fail
    refine HC.out.mono ?_
    rintro e w1 ⟨rfl, b1⟩
    go_wp2_with fail
    go_ret
    exact ⟨rfl, bA.trans (b1.mono bA.size)⟩
end Go.Proofs.Ytomefcngaclehaa
