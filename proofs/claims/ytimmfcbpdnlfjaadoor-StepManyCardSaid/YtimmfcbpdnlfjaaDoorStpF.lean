/- Contract of step.take. -/
import Derived.Test.YtimmfcbpdnlfjaaDoorStpE
import Derived.Test.YtimmfcbpdnlfjaaDoorNumsD
namespace Go.Proofs.YtimmfcbpdnlfjaaDoor
open Go.RowKit Go.Sort
set_option linter.unusedVariables false
set_option linter.unusedSimpArgs false

def unqOk (s : ByteArray) : Prop := 2 ≤ s.size ∧ (s.get! 0).toNat = 34 ∧ (s.get! (s.size - 1)).toNat = 34 ∧ quoteP ⟨(backP (bl (s.extract 1 (s.size - 1)))).toArray⟩ = bl s
instance (s : ByteArray) : Decidable (unqOk s) := by unfold unqOk; exact inferInstance
/-- What Unquote gives: the text, the error. -/
def unqT (s : ByteArray) : ByteArray := if unqOk s then ⟨(backP (bl (s.extract 1 (s.size - 1)))).toArray⟩ else ⟨#[]⟩
def unqE (s : ByteArray) : Int := if unqOk s then 0 else 10
theorem unqV_eq (s : ByteArray) : unqV s = .tuple #[.string (unqT s), .int .i64 (unqE s)] := by
  unfold unqV unqT unqE
  by_cases h : unqOk s
  · have h2 := h
    unfold unqOk at h2
    simp only [if_pos h, if_pos h2]
  · have h2 := h
    unfold unqOk at h2
    simp only [if_neg h, if_neg h2]
theorem rdNum_bound (l : List UInt8) : 0 ≤ rdNum l ∧ rdNum l ≤ 1125899906842624 := by
  unfold rdNum
  cases h : rd l with
  | none => exact ⟨by decide, by decide⟩
  | some n =>
    have := (rd_some h).2.2.1
    exact ⟨Int.natCast_nonneg n, by show (n : Int) ≤ _; omega⟩
/-- A part read: the step with it; is it right? -/
def takeP (s : Stp) (x : ByteArray) : Pt → Stp × Bool
  | .n => ({ s with n := rdNum (bl x) }, rdErr (bl x) == 0)
  | .t => ({ s with ticks := rdNum (bl x) }, rdErr (bl x) == 0)
  | .c => ({ s with ctx := rdNum (bl x) - 1 }, rdErr (bl x) == 0)
  | .a => ({ s with tab := posN tabN (bl x) }, ((posN tabN (bl x) : Nat) : Int) != 0)
  | .l => ({ s with lev := posN levN (bl x) }, ((posN levN (bl x) : Nat) : Int) != 0)
  | .k => ({ s with key := unqT x }, unqE x == 0 && decide (((unqT x).size : Int) ≤ 64))
  | .e => ({ s with en := unqT x }, unqE x == 0 && decide (((unqT x).size : Int) ≤ 64))
  | .v => ({ s with val := unqT x }, unqE x == 0 && decide (((unqT x).size : Int) ≤ 64))

set_option maxRecDepth 100000 in
set_option maxHeartbeats 2000000 in
theorem step_take_n (s : Stp) (x : ByteArray) (g : Nat) (w : World) (hb : Blk w g 26 (stpC s)) (hT : Tabs w) (hx : x.size ≤ 1000) :
    Calls Tryd.prog 19 #[.pointer (some ⟨g, 0, none⟩), .int .u8 ((codeP .n).toNat : Int), .string x] w fun e w' => e = .returned (.bool (takeP s x .n).2) ∧ Blk w' g 26 (stpC (takeP s x .n).1) ∧ Below g w w' := by
  have CR := Lib.hid (nums_Read x w (by omega))
  have CU := Lib.hid (fun w => runes_Unquote x (by omega) w)
  rw [unqV_eq] at CU
  obtain ⟨nn, hnn⟩ : ∃ nn, rdNum (bl x) = nn := ⟨_, rfl⟩
  obtain ⟨ne, hne⟩ : ∃ ne, rdErr (bl x) = ne := ⟨_, rfl⟩
  obtain ⟨tt, htt⟩ : ∃ tt, unqT x = tt := ⟨_, rfl⟩
  obtain ⟨te, hte⟩ : ∃ te, unqE x = te := ⟨_, rfl⟩
  have hnb := rdNum_bound (bl x)
  rw [hnn] at hnb
  rw [show x.data.toList = bl x from rfl, hnn, hne] at CR
  rw [htt, hte] at CU
  have HE : Hid (takeP s x .n = ({ s with n := nn }, ne == 0)) := Lib.hid (by unfold takeP; simp only [hnn, hne, htt, hte])
  rw [HE.out]
  clear hnn hne htt hte
  have HT := Lib.hid hT
  clear hT
  have hgl := hb.lt
  rw [show ((codeP .n).toNat : Int) = 110 from rfl]
  go_enter Tryd.func19, Tryd.ntmps19
  go_wp2_with fail
  refine CR.out.mono ?_
  clear CR
  rintro e w1 ⟨rfl, b1⟩
  replace hb := hb.below b1 hb.lt
  replace HT := Lib.hid (HT.out.below b1)
  replace b1 := b1.mono (Nat.le_of_lt hgl)
  replace hgl := hb.lt
  go_wp2_with fail
  refine (CU.out _ HT.out).mono ?_
  clear CU
  rintro e w2 ⟨rfl, b2⟩
  replace hb := hb.below b2 hb.lt
  replace HT := Lib.hid (HT.out.below b2)
  replace b1 := b1.trans (b2.mono (Nat.le_of_lt hgl))
  replace hgl := hb.lt
  clear b2
  have c0 := hb.cell 1
  have f0 := hb.frozen 1
  go_wp2_with fail
  go_ret
  exact ⟨rfl, hb.set_ 1 (.int .i64 nn), b1.setCell (p := ⟨g, 1, none⟩) (Nat.le_refl _) _⟩

set_option maxRecDepth 100000 in
set_option maxHeartbeats 2000000 in
theorem step_take_t (s : Stp) (x : ByteArray) (g : Nat) (w : World) (hb : Blk w g 26 (stpC s)) (hT : Tabs w) (hx : x.size ≤ 1000) :
    Calls Tryd.prog 19 #[.pointer (some ⟨g, 0, none⟩), .int .u8 ((codeP .t).toNat : Int), .string x] w fun e w' => e = .returned (.bool (takeP s x .t).2) ∧ Blk w' g 26 (stpC (takeP s x .t).1) ∧ Below g w w' := by
  have CR := Lib.hid (nums_Read x w (by omega))
  have CU := Lib.hid (fun w => runes_Unquote x (by omega) w)
  rw [unqV_eq] at CU
  obtain ⟨nn, hnn⟩ : ∃ nn, rdNum (bl x) = nn := ⟨_, rfl⟩
  obtain ⟨ne, hne⟩ : ∃ ne, rdErr (bl x) = ne := ⟨_, rfl⟩
  obtain ⟨tt, htt⟩ : ∃ tt, unqT x = tt := ⟨_, rfl⟩
  obtain ⟨te, hte⟩ : ∃ te, unqE x = te := ⟨_, rfl⟩
  have hnb := rdNum_bound (bl x)
  rw [hnn] at hnb
  rw [show x.data.toList = bl x from rfl, hnn, hne] at CR
  rw [htt, hte] at CU
  have HE : Hid (takeP s x .t = ({ s with ticks := nn }, ne == 0)) := Lib.hid (by unfold takeP; simp only [hnn, hne, htt, hte])
  rw [HE.out]
  clear hnn hne htt hte
  have HT := Lib.hid hT
  clear hT
  have hgl := hb.lt
  rw [show ((codeP .t).toNat : Int) = 116 from rfl]
  go_enter Tryd.func19, Tryd.ntmps19
  go_wp2_with fail
  refine CR.out.mono ?_
  clear CR
  rintro e w1 ⟨rfl, b1⟩
  replace hb := hb.below b1 hb.lt
  replace HT := Lib.hid (HT.out.below b1)
  replace b1 := b1.mono (Nat.le_of_lt hgl)
  replace hgl := hb.lt
  go_wp2_with fail
  refine (CU.out _ HT.out).mono ?_
  clear CU
  rintro e w2 ⟨rfl, b2⟩
  replace hb := hb.below b2 hb.lt
  replace HT := Lib.hid (HT.out.below b2)
  replace b1 := b1.trans (b2.mono (Nat.le_of_lt hgl))
  replace hgl := hb.lt
  clear b2
  have c0 := hb.cell 2
  have f0 := hb.frozen 2
  go_wp2_with fail
  go_ret
  exact ⟨rfl, hb.set_ 2 (.int .i64 nn), b1.setCell (p := ⟨g, 2, none⟩) (Nat.le_refl _) _⟩

set_option maxRecDepth 100000 in
set_option maxHeartbeats 2000000 in
theorem step_take_c (s : Stp) (x : ByteArray) (g : Nat) (w : World) (hb : Blk w g 26 (stpC s)) (hT : Tabs w) (hx : x.size ≤ 1000) :
    Calls Tryd.prog 19 #[.pointer (some ⟨g, 0, none⟩), .int .u8 ((codeP .c).toNat : Int), .string x] w fun e w' => e = .returned (.bool (takeP s x .c).2) ∧ Blk w' g 26 (stpC (takeP s x .c).1) ∧ Below g w w' := by
  have CR := Lib.hid (nums_Read x w (by omega))
  have CU := Lib.hid (fun w => runes_Unquote x (by omega) w)
  rw [unqV_eq] at CU
  obtain ⟨nn, hnn⟩ : ∃ nn, rdNum (bl x) = nn := ⟨_, rfl⟩
  obtain ⟨ne, hne⟩ : ∃ ne, rdErr (bl x) = ne := ⟨_, rfl⟩
  obtain ⟨tt, htt⟩ : ∃ tt, unqT x = tt := ⟨_, rfl⟩
  obtain ⟨te, hte⟩ : ∃ te, unqE x = te := ⟨_, rfl⟩
  have hnb := rdNum_bound (bl x)
  rw [hnn] at hnb
  rw [show x.data.toList = bl x from rfl, hnn, hne] at CR
  rw [htt, hte] at CU
  have HE : Hid (takeP s x .c = ({ s with ctx := nn - 1 }, ne == 0)) := Lib.hid (by unfold takeP; simp only [hnn, hne, htt, hte])
  rw [HE.out]
  clear hnn hne htt hte
  have HT := Lib.hid hT
  clear hT
  have hgl := hb.lt
  rw [show ((codeP .c).toNat : Int) = 99 from rfl]
  go_enter Tryd.func19, Tryd.ntmps19
  go_wp2_with fail
  refine CR.out.mono ?_
  clear CR
  rintro e w1 ⟨rfl, b1⟩
  replace hb := hb.below b1 hb.lt
  replace HT := Lib.hid (HT.out.below b1)
  replace b1 := b1.mono (Nat.le_of_lt hgl)
  replace hgl := hb.lt
  go_wp2_with fail
  refine (CU.out _ HT.out).mono ?_
  clear CU
  rintro e w2 ⟨rfl, b2⟩
  replace hb := hb.below b2 hb.lt
  replace HT := Lib.hid (HT.out.below b2)
  replace b1 := b1.trans (b2.mono (Nat.le_of_lt hgl))
  replace hgl := hb.lt
  clear b2
  have c0 := hb.cell 8
  have f0 := hb.frozen 8
  have hw : wrap64 (nn - 1) = nn - 1 := by unfold wrap64; omega
  go_wp2_with fail
  go_ret
  exact ⟨rfl, hb.set_ 8 (.int .i64 (nn - 1)), b1.setCell (p := ⟨g, 8, none⟩) (Nat.le_refl _) _⟩

set_option maxRecDepth 100000 in
set_option maxHeartbeats 2000000 in
theorem step_take_a (s : Stp) (x : ByteArray) (g : Nat) (w : World) (hb : Blk w g 26 (stpC s)) (hT : Tabs w) (hx : x.size ≤ 1000) :
    Calls Tryd.prog 19 #[.pointer (some ⟨g, 0, none⟩), .int .u8 ((codeP .a).toNat : Int), .string x] w fun e w' => e = .returned (.bool (takeP s x .a).2) ∧ Blk w' g 26 (stpC (takeP s x .a).1) ∧ Below g w w' := by
  have CR := Lib.hid (nums_Read x w (by omega))
  have CU := Lib.hid (fun w => runes_Unquote x (by omega) w)
  rw [unqV_eq] at CU
  obtain ⟨nn, hnn⟩ : ∃ nn, rdNum (bl x) = nn := ⟨_, rfl⟩
  obtain ⟨ne, hne⟩ : ∃ ne, rdErr (bl x) = ne := ⟨_, rfl⟩
  obtain ⟨tt, htt⟩ : ∃ tt, unqT x = tt := ⟨_, rfl⟩
  obtain ⟨te, hte⟩ : ∃ te, unqE x = te := ⟨_, rfl⟩
  have hnb := rdNum_bound (bl x)
  rw [hnn] at hnb
  rw [show x.data.toList = bl x from rfl, hnn, hne] at CR
  rw [htt, hte] at CU
  have HE : Hid (takeP s x .a = ({ s with tab := posN tabN (bl x) }, ((posN tabN (bl x) : Nat) : Int) != 0)) := Lib.hid (by unfold takeP; simp only [hnn, hne, htt, hte])
  rw [HE.out]
  clear hnn hne htt hte
  have HT := Lib.hid hT
  clear hT
  have hgl := hb.lt
  rw [show ((codeP .a).toNat : Int) = 97 from rfl]
  go_enter Tryd.func19, Tryd.ntmps19
  go_wp2_with fail
  refine CR.out.mono ?_
  clear CR
  rintro e w1 ⟨rfl, b1⟩
  replace hb := hb.below b1 hb.lt
  replace HT := Lib.hid (HT.out.below b1)
  replace b1 := b1.mono (Nat.le_of_lt hgl)
  replace hgl := hb.lt
  go_wp2_with fail
  refine (CU.out _ HT.out).mono ?_
  clear CU
  rintro e w2 ⟨rfl, b2⟩
  replace hb := hb.below b2 hb.lt
  replace HT := Lib.hid (HT.out.below b2)
  replace b1 := b1.trans (b2.mono (Nat.le_of_lt hgl))
  replace hgl := hb.lt
  clear b2
  go_wp2_with fail
  refine (step_tables w2).mono ?_
  rintro e w3 ⟨rfl, hw3⟩
  have hn3 : NamesAt w3 w2.heap.size tabN := by rw [hw3]; exact Blk.new _ _ _
  replace hb : Blk w3 g 26 (stpC s) := by rw [hw3]; exact hb.alloc _
  replace b1 : Below g w w3 := by rw [hw3]; exact b1.alloc (Nat.le_of_lt hgl) _
  clear hw3
  have CN := Lib.hid (step_number w2.heap.size tabN x w3 hn3 (by decide))
  rw [show tabN.length = 2 from rfl] at CN
  obtain ⟨r, hr⟩ : ∃ r, posN tabN (bl x) = r := ⟨_, rfl⟩
  rw [hr] at CN
  have HR := Lib.hid hr
  clear hr
  go_wp2_with fail
  refine CN.out.mono ?_
  clear CN
  rintro e w4 ⟨rfl, rfl⟩
  have c0 := hb.cell 3
  have f0 := hb.frozen 3
  have hb2 := hb.set_ 3 (.int .i64 r)
  clear HE
  go_wp2_with fail
  go_ret
  exact ⟨by rw [HR.out]; rfl, by rw [HR.out]; exact hb2, b1.setCell (p := ⟨g, 3, none⟩) (Nat.le_refl _) _⟩

set_option maxRecDepth 100000 in
set_option maxHeartbeats 2000000 in
theorem step_take_l (s : Stp) (x : ByteArray) (g : Nat) (w : World) (hb : Blk w g 26 (stpC s)) (hT : Tabs w) (hx : x.size ≤ 1000) :
    Calls Tryd.prog 19 #[.pointer (some ⟨g, 0, none⟩), .int .u8 ((codeP .l).toNat : Int), .string x] w fun e w' => e = .returned (.bool (takeP s x .l).2) ∧ Blk w' g 26 (stpC (takeP s x .l).1) ∧ Below g w w' := by
  have CR := Lib.hid (nums_Read x w (by omega))
  have CU := Lib.hid (fun w => runes_Unquote x (by omega) w)
  rw [unqV_eq] at CU
  obtain ⟨nn, hnn⟩ : ∃ nn, rdNum (bl x) = nn := ⟨_, rfl⟩
  obtain ⟨ne, hne⟩ : ∃ ne, rdErr (bl x) = ne := ⟨_, rfl⟩
  obtain ⟨tt, htt⟩ : ∃ tt, unqT x = tt := ⟨_, rfl⟩
  obtain ⟨te, hte⟩ : ∃ te, unqE x = te := ⟨_, rfl⟩
  have hnb := rdNum_bound (bl x)
  rw [hnn] at hnb
  rw [show x.data.toList = bl x from rfl, hnn, hne] at CR
  rw [htt, hte] at CU
  have HE : Hid (takeP s x .l = ({ s with lev := posN levN (bl x) }, ((posN levN (bl x) : Nat) : Int) != 0)) := Lib.hid (by unfold takeP; simp only [hnn, hne, htt, hte])
  rw [HE.out]
  clear hnn hne htt hte
  have HT := Lib.hid hT
  clear hT
  have hgl := hb.lt
  rw [show ((codeP .l).toNat : Int) = 108 from rfl]
  go_enter Tryd.func19, Tryd.ntmps19
  go_wp2_with fail
  refine CR.out.mono ?_
  clear CR
  rintro e w1 ⟨rfl, b1⟩
  replace hb := hb.below b1 hb.lt
  replace HT := Lib.hid (HT.out.below b1)
  replace b1 := b1.mono (Nat.le_of_lt hgl)
  replace hgl := hb.lt
  go_wp2_with fail
  refine (CU.out _ HT.out).mono ?_
  clear CU
  rintro e w2 ⟨rfl, b2⟩
  replace hb := hb.below b2 hb.lt
  replace HT := Lib.hid (HT.out.below b2)
  replace b1 := b1.trans (b2.mono (Nat.le_of_lt hgl))
  replace hgl := hb.lt
  clear b2
  go_wp2_with fail
  refine (step_levels w2).mono ?_
  rintro e w3 ⟨rfl, hw3⟩
  have hn3 : NamesAt w3 w2.heap.size levN := by rw [hw3]; exact Blk.new _ _ _
  replace hb : Blk w3 g 26 (stpC s) := by rw [hw3]; exact hb.alloc _
  replace b1 : Below g w w3 := by rw [hw3]; exact b1.alloc (Nat.le_of_lt hgl) _
  clear hw3
  have CN := Lib.hid (step_number w2.heap.size levN x w3 hn3 (by decide))
  rw [show levN.length = 3 from rfl] at CN
  obtain ⟨r, hr⟩ : ∃ r, posN levN (bl x) = r := ⟨_, rfl⟩
  rw [hr] at CN
  have HR := Lib.hid hr
  clear hr
  go_wp2_with fail
  refine CN.out.mono ?_
  clear CN
  rintro e w4 ⟨rfl, rfl⟩
  have c0 := hb.cell 4
  have f0 := hb.frozen 4
  have hb2 := hb.set_ 4 (.int .i64 r)
  clear HE
  go_wp2_with fail
  go_ret
  exact ⟨by rw [HR.out]; rfl, by rw [HR.out]; exact hb2, b1.setCell (p := ⟨g, 4, none⟩) (Nat.le_refl _) _⟩

set_option maxRecDepth 100000 in
set_option maxHeartbeats 2000000 in
theorem step_take_k (s : Stp) (x : ByteArray) (g : Nat) (w : World) (hb : Blk w g 26 (stpC s)) (hT : Tabs w) (hx : x.size ≤ 1000) :
    Calls Tryd.prog 19 #[.pointer (some ⟨g, 0, none⟩), .int .u8 ((codeP .k).toNat : Int), .string x] w fun e w' => e = .returned (.bool (takeP s x .k).2) ∧ Blk w' g 26 (stpC (takeP s x .k).1) ∧ Below g w w' := by
  have CR := Lib.hid (nums_Read x w (by omega))
  have CU := Lib.hid (fun w => runes_Unquote x (by omega) w)
  rw [unqV_eq] at CU
  obtain ⟨nn, hnn⟩ : ∃ nn, rdNum (bl x) = nn := ⟨_, rfl⟩
  obtain ⟨ne, hne⟩ : ∃ ne, rdErr (bl x) = ne := ⟨_, rfl⟩
  obtain ⟨tt, htt⟩ : ∃ tt, unqT x = tt := ⟨_, rfl⟩
  obtain ⟨te, hte⟩ : ∃ te, unqE x = te := ⟨_, rfl⟩
  have hnb := rdNum_bound (bl x)
  rw [hnn] at hnb
  rw [show x.data.toList = bl x from rfl, hnn, hne] at CR
  rw [htt, hte] at CU
  have HE : Hid (takeP s x .k = ({ s with key := tt }, te == 0 && decide ((tt.size : Int) ≤ 64))) := Lib.hid (by unfold takeP; simp only [hnn, hne, htt, hte])
  rw [HE.out]
  clear hnn hne htt hte
  have HT := Lib.hid hT
  clear hT
  have hgl := hb.lt
  rw [show ((codeP .k).toNat : Int) = 107 from rfl]
  go_enter Tryd.func19, Tryd.ntmps19
  go_wp2_with fail
  refine CR.out.mono ?_
  clear CR
  rintro e w1 ⟨rfl, b1⟩
  replace hb := hb.below b1 hb.lt
  replace HT := Lib.hid (HT.out.below b1)
  replace b1 := b1.mono (Nat.le_of_lt hgl)
  replace hgl := hb.lt
  go_wp2_with fail
  refine (CU.out _ HT.out).mono ?_
  clear CU
  rintro e w2 ⟨rfl, b2⟩
  replace hb := hb.below b2 hb.lt
  replace HT := Lib.hid (HT.out.below b2)
  replace b1 := b1.trans (b2.mono (Nat.le_of_lt hgl))
  replace hgl := hb.lt
  clear b2
  have c0 := hb.cell 5
  have f0 := hb.frozen 5
  by_cases he : te = 0
  · have hq : (te == 0) = true := by simp [he]
    have F : Hid ((te == 0 && decide ((tt.size : Int) ≤ 64)) = decide ((tt.size : Int) ≤ 64)) := Lib.hid (by rw [hq]; rfl)
    clear he
    go_wp2_with fail
    go_ret
    exact ⟨by rw [F.out]; rfl, hb.set_ 5 (.string tt), b1.setCell (p := ⟨g, 5, none⟩) (Nat.le_refl _) _⟩
  · have hq : (te == 0) = false := by simp [he]
    have F : Hid ((te == 0 && decide ((tt.size : Int) ≤ 64)) = false) := Lib.hid (by rw [hq]; rfl)
    clear he
    go_wp2_with fail
    go_ret
    exact ⟨by rw [F.out]; rfl, hb.set_ 5 (.string tt), b1.setCell (p := ⟨g, 5, none⟩) (Nat.le_refl _) _⟩

set_option maxRecDepth 100000 in
set_option maxHeartbeats 2000000 in
theorem step_take_e (s : Stp) (x : ByteArray) (g : Nat) (w : World) (hb : Blk w g 26 (stpC s)) (hT : Tabs w) (hx : x.size ≤ 1000) :
    Calls Tryd.prog 19 #[.pointer (some ⟨g, 0, none⟩), .int .u8 ((codeP .e).toNat : Int), .string x] w fun e w' => e = .returned (.bool (takeP s x .e).2) ∧ Blk w' g 26 (stpC (takeP s x .e).1) ∧ Below g w w' := by
  have CR := Lib.hid (nums_Read x w (by omega))
  have CU := Lib.hid (fun w => runes_Unquote x (by omega) w)
  rw [unqV_eq] at CU
  obtain ⟨nn, hnn⟩ : ∃ nn, rdNum (bl x) = nn := ⟨_, rfl⟩
  obtain ⟨ne, hne⟩ : ∃ ne, rdErr (bl x) = ne := ⟨_, rfl⟩
  obtain ⟨tt, htt⟩ : ∃ tt, unqT x = tt := ⟨_, rfl⟩
  obtain ⟨te, hte⟩ : ∃ te, unqE x = te := ⟨_, rfl⟩
  have hnb := rdNum_bound (bl x)
  rw [hnn] at hnb
  rw [show x.data.toList = bl x from rfl, hnn, hne] at CR
  rw [htt, hte] at CU
  have HE : Hid (takeP s x .e = ({ s with en := tt }, te == 0 && decide ((tt.size : Int) ≤ 64))) := Lib.hid (by unfold takeP; simp only [hnn, hne, htt, hte])
  rw [HE.out]
  clear hnn hne htt hte
  have HT := Lib.hid hT
  clear hT
  have hgl := hb.lt
  rw [show ((codeP .e).toNat : Int) = 101 from rfl]
  go_enter Tryd.func19, Tryd.ntmps19
  go_wp2_with fail
  refine CR.out.mono ?_
  clear CR
  rintro e w1 ⟨rfl, b1⟩
  replace hb := hb.below b1 hb.lt
  replace HT := Lib.hid (HT.out.below b1)
  replace b1 := b1.mono (Nat.le_of_lt hgl)
  replace hgl := hb.lt
  go_wp2_with fail
  refine (CU.out _ HT.out).mono ?_
  clear CU
  rintro e w2 ⟨rfl, b2⟩
  replace hb := hb.below b2 hb.lt
  replace HT := Lib.hid (HT.out.below b2)
  replace b1 := b1.trans (b2.mono (Nat.le_of_lt hgl))
  replace hgl := hb.lt
  clear b2
  have c0 := hb.cell 6
  have f0 := hb.frozen 6
  by_cases he : te = 0
  · have hq : (te == 0) = true := by simp [he]
    have F : Hid ((te == 0 && decide ((tt.size : Int) ≤ 64)) = decide ((tt.size : Int) ≤ 64)) := Lib.hid (by rw [hq]; rfl)
    clear he
    go_wp2_with fail
    go_ret
    exact ⟨by rw [F.out]; rfl, hb.set_ 6 (.string tt), b1.setCell (p := ⟨g, 6, none⟩) (Nat.le_refl _) _⟩
  · have hq : (te == 0) = false := by simp [he]
    have F : Hid ((te == 0 && decide ((tt.size : Int) ≤ 64)) = false) := Lib.hid (by rw [hq]; rfl)
    clear he
    go_wp2_with fail
    go_ret
    exact ⟨by rw [F.out]; rfl, hb.set_ 6 (.string tt), b1.setCell (p := ⟨g, 6, none⟩) (Nat.le_refl _) _⟩

set_option maxRecDepth 100000 in
set_option maxHeartbeats 2000000 in
theorem step_take_v (s : Stp) (x : ByteArray) (g : Nat) (w : World) (hb : Blk w g 26 (stpC s)) (hT : Tabs w) (hx : x.size ≤ 1000) :
    Calls Tryd.prog 19 #[.pointer (some ⟨g, 0, none⟩), .int .u8 ((codeP .v).toNat : Int), .string x] w fun e w' => e = .returned (.bool (takeP s x .v).2) ∧ Blk w' g 26 (stpC (takeP s x .v).1) ∧ Below g w w' := by
  have CR := Lib.hid (nums_Read x w (by omega))
  have CU := Lib.hid (fun w => runes_Unquote x (by omega) w)
  rw [unqV_eq] at CU
  obtain ⟨nn, hnn⟩ : ∃ nn, rdNum (bl x) = nn := ⟨_, rfl⟩
  obtain ⟨ne, hne⟩ : ∃ ne, rdErr (bl x) = ne := ⟨_, rfl⟩
  obtain ⟨tt, htt⟩ : ∃ tt, unqT x = tt := ⟨_, rfl⟩
  obtain ⟨te, hte⟩ : ∃ te, unqE x = te := ⟨_, rfl⟩
  have hnb := rdNum_bound (bl x)
  rw [hnn] at hnb
  rw [show x.data.toList = bl x from rfl, hnn, hne] at CR
  rw [htt, hte] at CU
  have HE : Hid (takeP s x .v = ({ s with val := tt }, te == 0 && decide ((tt.size : Int) ≤ 64))) := Lib.hid (by unfold takeP; simp only [hnn, hne, htt, hte])
  rw [HE.out]
  clear hnn hne htt hte
  have HT := Lib.hid hT
  clear hT
  have hgl := hb.lt
  rw [show ((codeP .v).toNat : Int) = 118 from rfl]
  go_enter Tryd.func19, Tryd.ntmps19
  go_wp2_with fail
  refine CR.out.mono ?_
  clear CR
  rintro e w1 ⟨rfl, b1⟩
  replace hb := hb.below b1 hb.lt
  replace HT := Lib.hid (HT.out.below b1)
  replace b1 := b1.mono (Nat.le_of_lt hgl)
  replace hgl := hb.lt
  go_wp2_with fail
  refine (CU.out _ HT.out).mono ?_
  clear CU
  rintro e w2 ⟨rfl, b2⟩
  replace hb := hb.below b2 hb.lt
  replace HT := Lib.hid (HT.out.below b2)
  replace b1 := b1.trans (b2.mono (Nat.le_of_lt hgl))
  replace hgl := hb.lt
  clear b2
  have c0 := hb.cell 7
  have f0 := hb.frozen 7
  by_cases he : te = 0
  · have hq : (te == 0) = true := by simp [he]
    have F : Hid ((te == 0 && decide ((tt.size : Int) ≤ 64)) = decide ((tt.size : Int) ≤ 64)) := Lib.hid (by rw [hq]; rfl)
    clear he
    go_wp2_with fail
    go_ret
    exact ⟨by rw [F.out]; rfl, hb.set_ 7 (.string tt), b1.setCell (p := ⟨g, 7, none⟩) (Nat.le_refl _) _⟩
  · have hq : (te == 0) = false := by simp [he]
    have F : Hid ((te == 0 && decide ((tt.size : Int) ≤ 64)) = false) := Lib.hid (by rw [hq]; rfl)
    clear he
    go_wp2_with fail
    go_ret
    exact ⟨by rw [F.out]; rfl, hb.set_ 7 (.string tt), b1.setCell (p := ⟨g, 7, none⟩) (Nat.le_refl _) _⟩

theorem step_take (s : Stp) (p : Pt) (x : ByteArray) (g : Nat) (w : World) (hb : Blk w g 26 (stpC s)) (hT : Tabs w) (hx : x.size ≤ 1000) :
    Calls Tryd.prog 19 #[.pointer (some ⟨g, 0, none⟩), .int .u8 ((codeP p).toNat : Int), .string x] w fun e w' => e = .returned (.bool (takeP s x p).2) ∧ Blk w' g 26 (stpC (takeP s x p).1) ∧ Below g w w' := by
  cases p
  · exact step_take_n s x g w hb hT hx
  · exact step_take_t s x g w hb hT hx
  · exact step_take_c s x g w hb hT hx
  · exact step_take_a s x g w hb hT hx
  · exact step_take_l s x g w hb hT hx
  · exact step_take_k s x g w hb hT hx
  · exact step_take_e s x g w hb hT hx
  · exact step_take_v s x g w hb hT hx
end Go.Proofs.YtimmfcbpdnlfjaaDoor
