/- Contracts of conf.Members, Leader, May, and of the law's always and may. -/
import Derived.Test.YtfebncpfhdgkpaaConfA
import Derived.Test.YtfebncpfhdgkpaaFuncsB
import Derived.Shelf.Abstract
namespace Go.Proofs.Ytfebncpfhdgkpaa
open Go.RowKit Go.Sort Go.Shelf

/-- Who never was out. -/
def alB (o0 o1 o2 o3 o4 : Bool) (j0 j1 j2 j3 j4 : Int) (n : Int) : Bool := !cOut o0 o1 o2 o3 o4 n && (cJoin j0 j1 j2 j3 j4 n == 0)

section
variable {w : World} {gc gn B : Nat} {e : Int} {o0 o1 o2 o3 o4 : Bool} {j0 j1 j2 j3 j4 : Int} {n : Int}
set_option maxRecDepth 100000 in
theorem members_pred (hb : Blk w gc 37 #[.int .i64 e, .bool o0, .bool o1, .bool o2, .bool o3, .bool o4, .int .i64 j0, .int .i64 j1, .int .i64 j2, .int .i64 j3, .int .i64 j4]) (hB : gc < B) : PredB 70 #[] #[.pointer (some ⟨gc, 0, none⟩)] (fun x => cOut o0 o1 o2 o3 o4 x) B w := by
  intro W x hW
  have hc := (hb.below hW hB).cell
  go_enter Try.func70, Try.ntmps70
  go_wp2_with fail
  refine (conf_Is e o0 o1 o2 o3 o4 j0 j1 j2 j3 j4 x W).mono ?_
  rintro e w1 ⟨rfl, b1⟩
  go_wp2_with fail
  go_ret
  exact ⟨ret_bool (by simp), b1⟩
set_option maxRecDepth 100000 in
theorem may_pred (hb : Blk w gc 37 #[.int .i64 e, .bool o0, .bool o1, .bool o2, .bool o3, .bool o4, .int .i64 j0, .int .i64 j1, .int .i64 j2, .int .i64 j3, .int .i64 j4]) (hB : gc < B) (hn : Blk w gn 3 #[.int .i64 n]) (hB2 : gn < B) : PredB 72 #[] #[.pointer (some ⟨gn, 0, none⟩), .pointer (some ⟨gc, 0, none⟩)] (fun x => (x != n) && alB o0 o1 o2 o3 o4 j0 j1 j2 j3 j4 x) B w := by
  intro W x hW
  have hc := (hb.below hW hB).cell
  have hcn := (hn.below hW hB2).cell
  by_cases h : x = n
  · subst h
    have hd : (x != x) = false := by simp
    go_enter Try.func72, Try.ntmps72
    go_wp2_with fail
    go_ret
    exact ⟨ret_bool (by simp), Below.refl _ _⟩
  · have hd : (x != n) = true := by simpa using h
    go_enter Try.func72, Try.ntmps72
    go_wp2_with fail
    refine (conf_Always e o0 o1 o2 o3 o4 j0 j1 j2 j3 j4 x W).mono ?_
    rintro e w1 ⟨rfl, b1⟩
    have H : Hid ((x != n && alB o0 o1 o2 o3 o4 j0 j1 j2 j3 j4 x) = (!cOut o0 o1 o2 o3 o4 x && (cJoin j0 j1 j2 j3 j4 x == 0))) := Lib.hid (by rw [hd]; rfl)
    go_wp2_with fail
    go_ret
    exact ⟨ret_bool H.out.symm, b1⟩
theorem always_pred : PredB 67 #[.agg #[.int .i64 e, .bool o0, .bool o1, .bool o2, .bool o3, .bool o4, .int .i64 j0, .int .i64 j1, .int .i64 j2, .int .i64 j3, .int .i64 j4]] #[] (fun x => alB o0 o1 o2 o3 o4 j0 j1 j2 j3 j4 x) B w := by
  intro W x hW
  exact conf_Always e o0 o1 o2 o3 o4 j0 j1 j2 j3 j4 x W
end

/-- The first one of some that never was out. -/
def leadO (p : Int → Bool) (l : List Int) : Option Int := l.find? p
theorem lead_of {p : Int → Bool} {l : List Int} {r : Int} (h : IdxR p l r) : (r = -1 ∧ leadO p l = none) ∨ ∃ k : Nat, r = k ∧ k < l.length ∧ ∃ x, l[k]? = some x ∧ leadO p l = some x := by
  rcases h with ⟨rfl, h⟩ | ⟨k, rfl, hk, ⟨x, hx, hp⟩, hb⟩
  · refine .inl ⟨rfl, ?_⟩
    unfold leadO
    rw [List.find?_eq_none]
    intro x hx
    rw [h x hx]
    decide
  · refine .inr ⟨k, rfl, hk, x, hx, ?_⟩
    unfold leadO
    rw [List.find?_eq_some_iff_getElem]
    refine ⟨hp, k, hk, ?_, ?_⟩
    · rw [List.getElem?_eq_getElem hk] at hx
      injection hx
    · intro j hj
      have := hb l[j] (List.mem_take_iff_getElem.2 ⟨j, by omega, rfl⟩)
      rw [this]
      rfl

section
variable (w : World) (e : Int) (o0 o1 o2 o3 o4 : Bool) (j0 j1 j2 j3 j4 : Int)
set_option maxRecDepth 100000 in
theorem conf_Members (A : Option Addr) (n c : Nat) (l : List Int) (hr : Reads w w.heap.size 1 A n (l.map vi)) (hA : A = none → c = 0) (hn : n ≤ 100000000) :
    Calls Try.prog 23 #[.agg #[.int .i64 e, .bool o0, .bool o1, .bool o2, .bool o3, .bool o4, .int .i64 j0, .int .i64 j1, .int .i64 j2, .int .i64 j3, .int .i64 j4], .slice A n c] w (FreshI w (l.filter fun x => !cOut o0 o1 o2 o3 o4 x)) := by
  have hl := hr.leni
  have B0 := Blk.new w 37 #[.int .i64 e, .bool o0, .bool o1, .bool o2, .bool o3, .bool o4, .int .i64 j0, .int .i64 j1, .int .i64 j2, .int .i64 j3, .int .i64 j4]
  have hB : Below w.heap.size w (w.alloc (.cells #[.int .i64 e, .bool o0, .bool o1, .bool o2, .bool o3, .bool o4, .int .i64 j0, .int .i64 j1, .int .i64 j2, .int .i64 j3, .int .i64 j4] 37)) := (Below.refl _ _).alloc (Nat.le_refl _) _
  have HC := Lib.hid (ints_Clone A n c l (w.alloc (.cells #[.int .i64 e, .bool o0, .bool o1, .bool o2, .bool o3, .bool o4, .int .i64 j0, .int .i64 j1, .int .i64 j2, .int .i64 j3, .int .i64 j4] 37)) ((hr.below hB).more hB.size) hA (by omega))
  have HL := Lib.hid hl
  have hW : w.heap.size < (w.alloc (.cells #[.int .i64 e, .bool o0, .bool o1, .bool o2, .bool o3, .bool o4, .int .i64 j0, .int .i64 j1, .int .i64 j2, .int .i64 j3, .int .i64 j4] 37)).heap.size := by simp
  have eg : ∀ args w, (callFunc 70 args).run Try.prog w = .ok (.enter 70 args) w := enters_of Try.func70 (by kernel_rfl) rfl
  have EG := Lib.hid eg
  clear hr hl eg
  go_enter Try.func23, Try.ntmps23
  go_wp2_with fail
  refine HC.out.mono ?_
  clear HC
  rintro e' w1 ⟨v1, rfl, ow1, b1⟩
  replace B0 := B0.below b1 hW
  have hB1 := hB.trans (b1.mono hB.size)
  have HD := Lib.hid (ints_DeleteFunc v1 l w1 (w.alloc (.cells #[.int .i64 e, .bool o0, .bool o1, .bool o2, .bool o3, .bool o4, .int .i64 j0, .int .i64 j1, .int .i64 j2, .int .i64 j3, .int .i64 j4] 37)).heap.size _ 70 #[] #[.pointer (some ⟨w.heap.size, 0, none⟩)] (fun x => cOut o0 o1 o2 o3 o4 x) EG.out ow1 (Nat.le_refl _) b1.size (by have := HL.out; omega) (members_pred B0 hW))
  have hs := b1.size
  clear B0 ow1 b1
  generalize (w.alloc (.cells #[.int .i64 e, .bool o0, .bool o1, .bool o2, .bool o3, .bool o4, .int .i64 j0, .int .i64 j1, .int .i64 j2, .int .i64 j3, .int .i64 j4] 37)) = w0 at *
  go_wp2_with fail
  refine HD.out.mono ?_
  rintro e' w2 ⟨v2, rfl, ow2, b2⟩
  have ow2' : OwnI w2 w.heap.size v2 (l.filter fun x => !cOut o0 o1 o2 o3 o4 x) := by
    obtain ⟨q1, q2⟩ := ow2
    refine ⟨q1, ?_⟩
    rcases q2 with q | ⟨g, cap, cur, qv, qb, r⟩
    · exact .inl q
    · exact .inr ⟨g, cap, cur, qv, by omega, r⟩
  have HO := Lib.hid ow2'
  clear ow2 ow2'
  go_wp2_with fail
  go_ret
  exact ⟨v2, rfl, HO.out, hB1.trans (b2.mono (by omega))⟩

def LeadE (p : Int → Bool) (l : List Int) (w : World) (e : Ending) (w' : World) : Prop := e = .returned (.tuple #[.int .i64 ((leadO p l).getD 0), .bool (leadO p l).isSome]) ∧ Below w.heap.size w w'
set_option maxRecDepth 100000 in
theorem conf_Leader (A : Option Addr) (n c : Nat) (l : List Int) (hr : Reads w w.heap.size 1 A n (l.map vi)) (hn : n ≤ 100000000) :
    Calls Try.prog 21 #[.agg #[.int .i64 e, .bool o0, .bool o1, .bool o2, .bool o3, .bool o4, .int .i64 j0, .int .i64 j1, .int .i64 j2, .int .i64 j3, .int .i64 j4], .slice A n c] w (LeadE (fun x => alB o0 o1 o2 o3 o4 j0 j1 j2 j3 j4 x) l w) := by
  have hl := hr.leni
  have hB : Below w.heap.size w (w.alloc (.cells #[.int .i64 e, .bool o0, .bool o1, .bool o2, .bool o3, .bool o4, .int .i64 j0, .int .i64 j1, .int .i64 j2, .int .i64 j3, .int .i64 j4] 37)) := (Below.refl _ _).alloc (Nat.le_refl _) _
  have eg : ∀ args w, (callFunc 67 args).run Try.prog w = .ok (.enter 67 args) w := enters_of Try.func67 (by kernel_rfl) rfl
  have hr1 := (hr.below hB).more hB.size
  have HC := Lib.hid (ints_IndexFunc A n c l (w.alloc (.cells #[.int .i64 e, .bool o0, .bool o1, .bool o2, .bool o3, .bool o4, .int .i64 j0, .int .i64 j1, .int .i64 j2, .int .i64 j3, .int .i64 j4] 37)) _ 67 #[.agg #[.int .i64 e, .bool o0, .bool o1, .bool o2, .bool o3, .bool o4, .int .i64 j0, .int .i64 j1, .int .i64 j2, .int .i64 j3, .int .i64 j4]] #[] (fun x => alB o0 o1 o2 o3 o4 j0 j1 j2 j3 j4 x) eg hr1 (Nat.le_refl _) (by omega) (always_pred))
  have HL := Lib.hid hl
  have HR := Lib.hid hr1
  clear hr hl hr1 eg
  go_enter Try.func21, Try.ntmps21
  go_wp2_with fail
  refine HC.out.mono ?_
  clear HC
  rintro e' w1 ⟨r, rfl, hr, b1⟩
  have hB1 := hB.trans (b1.mono hB.size)
  have HR1 := Lib.hid ((HR.out.below b1).more b1.size)
  clear b1 hB
  rcases lead_of hr with ⟨rfl, h0⟩ | ⟨k, rfl, hk, x, hx, h0⟩
  · have H0 := Lib.hid h0
    clear h0 hr
    go_wp2_with fail
    go_ret2
    exact ⟨by rw [H0.out]; rfl, hB1⟩
  · have H0 := Lib.hid h0
    have hkn : k < n := by have := HL.out; omega
    obtain ⟨b, off, hbo, _, hc⟩ := Reads.form HR1.out (by omega)
    subst hbo
    have q0 := hc k (vi x) (by rw [List.getElem?_map, hx]; rfl)
    unfold vi at q0
    clear h0 hr hc hx hk
    go_wp2_with fail
    go_ret2
    exact ⟨by rw [H0.out]; rfl, hB1⟩
end
end Go.Proofs.Ytfebncpfhdgkpaa
