/- Plain laws of the sets of spans; the chapter's example. -/
import Derived.Test.YtomefcngaclehaaSpnT
namespace Go.Proofs.Ytomefcngaclehaa
open Go.RowKit Go.Sort

theorem inL_perm {a b : List Sp} (h : a.Perm b) (k : ByteArray) : inL cmpT a k = inL cmpT b k := by
  rw [Bool.eq_iff_iff, inL_true, inL_true]
  exact ⟨fun ⟨s, h1, h2⟩ => ⟨s, h.mem_iff.1 h1, h2⟩, fun ⟨s, h1, h2⟩ => ⟨s, h.mem_iff.2 h1, h2⟩⟩
theorem ofS_ok (l : List Sp) : Canon cmpT (ofS l) ∧ ∀ k, inL cmpT (ofS l) k = inL cmpT l k := by
  unfold ofS
  have hp := sortP_perm (l.filter fun s => !leT s.2 s.1)
  obtain ⟨h1, h2⟩ := steps_ok cmp_T (sortP (l.filter fun s => !leT s.2 s.1)) [] Canon.nil (fun s hs => by
    have h := (List.mem_filter.1 (hp.mem_iff.1 hs)).2
    unfold leT at h
    have := cmp_T.anti s.2 s.1
    simp at h
    omega) (sortP_up _) (fun t ht => by cases ht)
  refine ⟨h1, fun k => ?_⟩
  rw [h2, inL_nil, Bool.false_or, inL_perm hp, Bool.eq_iff_iff, inL_true, inL_true]
  refine ⟨fun ⟨s, h3, h4⟩ => ⟨s, (List.mem_filter.1 h3).1, h4⟩, fun ⟨s, h3, h4, h5⟩ => ⟨s, List.mem_filter.2 ⟨h3, ?_⟩, h4, h5⟩⟩
  have h6 := cmp_T.le_lt h4 h5
  unfold leT
  have := cmp_T.anti s.1 s.2
  simp
  omega
theorem ofS_canon (l : List Sp) : Canon cmpT (ofS l) := (ofS_ok l).1
theorem ofS_in (l : List Sp) (k : ByteArray) : inL cmpT (ofS l) k = inL cmpT l k := (ofS_ok l).2 k
theorem same_of {a b : List Sp} (ha : Canon cmpT a) (hb : Canon cmpT b) (h : ∀ k, inL cmpT a k = inL cmpT b k) : a = b := canon_uniq cmp_T cmpT_eq a b ha hb h
theorem both_canon (a b : List Sp) (n : Int) : Canon cmpT (bothL cmpT e0 a b n) := (both_ok cmp_T cmpT_eq e0 a b n).1
theorem both_in (a b : List Sp) (n : Int) (k : ByteArray) : inL cmpT (bothL cmpT e0 a b n) k = kindF n (inL cmpT a k) (inL cmpT b k) := (both_ok cmp_T cmpT_eq e0 a b n).2 k
theorem meet_in {a b : List Sp} (ha : Canon cmpT a) (hb : Canon cmpT b) (k : ByteArray) : inL cmpT (meetL cmpT a b) k = (inL cmpT a k && inL cmpT b k) := inL_meet cmp_T k _ a b (Nat.le_refl _) ha hb
theorem less_in (a : List Sp) {b : List Sp} (hb : Canon cmpT b) (k : ByteArray) : inL cmpT (lessL cmpT a b) k = (inL cmpT a k && !inL cmpT b k) := by
  unfold lessL
  rw [inL_less cmp_T k b hb, inL_nil, Bool.false_or]

theorem both_one (a : List Sp) : bothL cmpT e0 a [] 0 = ofS a := same_of (both_canon _ _ _) (ofS_canon _) fun k => by
  rw [both_in, ofS_in, inL_nil]
  unfold kindF
  cases inL cmpT a k <;> rfl
theorem both_join (a b : List Sp) : bothL cmpT e0 a b 0 = ofS (ofS a ++ ofS b) := same_of (both_canon _ _ _) (ofS_canon _) fun k => by
  rw [both_in, ofS_in, inL_append, ofS_in, ofS_in]
  unfold kindF
  cases inL cmpT a k <;> cases inL cmpT b k <;> rfl
theorem both_meet (a b : List Sp) : bothL cmpT e0 a b 1 = ofS (meetL cmpT (ofS a) (ofS b)) := same_of (both_canon _ _ _) (ofS_canon _) fun k => by
  rw [both_in, ofS_in, meet_in (ofS_canon _) (ofS_canon _), ofS_in, ofS_in]
  unfold kindF
  cases inL cmpT a k <;> cases inL cmpT b k <;> rfl
theorem both_less (a b : List Sp) : bothL cmpT e0 a b 2 = ofS (lessL cmpT (ofS a) (ofS b)) := same_of (both_canon _ _ _) (ofS_canon _) fun k => by
  rw [both_in, ofS_in, less_in _ (ofS_canon _), ofS_in, ofS_in]
  unfold kindF
  cases inL cmpT a k <;> cases inL cmpT b k <;> rfl
/-- Is all of a span in a set? -/
theorem cov_rest (l : List Sp) (x : Sp) : covL cmpT (ofS l) x = decide (bothL cmpT e0 [x] l 2 = []) := by
  rw [Bool.eq_iff_iff, cov_iff cmp_T (ofS l) x (ofS_canon l), decide_eq_true_iff, canon_none cmp_T (both_canon _ _ _)]
  constructor
  · intro h k
    rw [both_in, inL_cons, inL_nil, Bool.or_false]
    have h1 := h k
    rw [ofS_in] at h1
    unfold kindF
    cases h2 : inS cmpT x k with
    | false => rfl
    | true => rw [h1 h2]; rfl
  · intro h k hk
    have h1 := h k
    rw [both_in, inL_cons, inL_nil, Bool.or_false, hk] at h1
    rw [ofS_in]
    unfold kindF at h1
    cases h2 : inL cmpT l k with
    | true => rfl
    | false => rw [h2] at h1; simp at h1
theorem less_meet (x y : List Sp) (hx : Canon cmpT x) (hy : Canon cmpT y) : ofS (ofS (lessL cmpT x y) ++ ofS (meetL cmpT x y)) = x := same_of (ofS_canon _) hx fun k => by
  rw [ofS_in, inL_append, ofS_in, ofS_in, less_in _ hy, meet_in hx hy]
  cases inL cmpT x k <;> cases inL cmpT y k <;> rfl
theorem less_apart (x y : List Sp) (hy : Canon cmpT y) : ofS (meetL cmpT (ofS (lessL cmpT x y)) y) = [] := same_of (ofS_canon _) Canon.nil fun k => by
  rw [ofS_in, meet_in (ofS_canon _) hy, ofS_in, less_in _ hy, inL_nil]
  cases inL cmpT x k <;> cases inL cmpT y k <;> rfl
theorem join_swap (x y : List Sp) : ofS (x ++ y) = ofS (y ++ x) := same_of (ofS_canon _) (ofS_canon _) fun k => by
  rw [ofS_in, ofS_in, inL_append, inL_append, Bool.or_comm]
theorem lessO_len (b : List Sp) : ∀ (out : List Sp) (x : Sp), (lessO cmpT b out x).length ≤ out.length + b.length + 1 := by
  intro out x
  have h : ∀ (b : List Sp) (st : List Sp × Sp), (b.foldl (stepL cmpT) st).1.length ≤ st.1.length + b.length := by
    intro b
    induction b with
    | nil => intro st; simp
    | cons y b ih =>
      intro st
      rw [List.foldl_cons]
      refine Nat.le_trans (ih _) ?_
      unfold stepL
      rw [List.length_cons]
      split
      · omega
      · simp only [List.length_append, List.length_cons, List.length_nil]; omega
  unfold lessO
  have := h b (out, x)
  rw [List.length_append]
  simp only [List.length_cons, List.length_nil] at *
  omega
theorem lessL_len (b : List Sp) : ∀ (a out : List Sp), (a.foldl (lessO cmpT b) out).length ≤ out.length + a.length * (b.length + 1)
  | [], out => by simp
  | x :: a, out => by
    have h1 := lessL_len b a (lessO cmpT b out x)
    have h2 := lessO_len b out x
    rw [List.foldl_cons, List.length_cons, Nat.add_mul]
    omega

theorem ex46 : ofS [(⟨#[97]⟩, ⟨#[99]⟩), (⟨#[99]⟩, ⟨#[101]⟩), (⟨#[120]⟩, ⟨#[120]⟩)] = [((⟨#[97]⟩ : ByteArray), (⟨#[101]⟩ : ByteArray))] := by
  have c1 : cmpT ⟨#[97]⟩ ⟨#[99]⟩ = -1 := by
    unfold cmpT
    rw [Go.ByteArray.toList_eq, Go.ByteArray.toList_eq]
    rfl
  have c2 : cmpT ⟨#[99]⟩ ⟨#[101]⟩ = -1 := by
    unfold cmpT
    rw [Go.ByteArray.toList_eq, Go.ByteArray.toList_eq]
    rfl
  have c3 : cmpT ⟨#[97]⟩ ⟨#[101]⟩ = -1 := by
    unfold cmpT
    rw [Go.ByteArray.toList_eq, Go.ByteArray.toList_eq]
    rfl
  generalize (⟨#[97]⟩ : ByteArray) = a at *
  generalize (⟨#[99]⟩ : ByteArray) = c at *
  generalize (⟨#[101]⟩ : ByteArray) = e at *
  generalize (⟨#[120]⟩ : ByteArray) = x at *
  refine same_of (ofS_canon _) ⟨List.pairwise_singleton _ _, fun s hs => by rw [List.mem_singleton.1 hs]; show cmpT a e < 0; omega⟩ fun k => ?_
  rw [ofS_in, Bool.eq_iff_iff, inL_true, inL_true]
  constructor
  · rintro ⟨s, hs, h1, h2⟩
    simp only [List.mem_cons, List.mem_nil_iff, or_false] at hs
    refine ⟨(a, e), List.mem_singleton.2 rfl, ?_⟩
    rcases hs with rfl | rfl | rfl <;> simp only at h1 h2 ⊢
    · exact ⟨h1, cmp_T.lt_le h2 (by omega)⟩
    · exact ⟨cmp_T.tr a c k (by omega) h1, h2⟩
    · have := cmp_T.le_lt h1 h2
      have := cmp_T.self x
      omega
  · rintro ⟨s, hs, h1, h2⟩
    rw [List.mem_singleton.1 hs] at h1 h2
    simp only at h1 h2
    by_cases h3 : cmpT k c < 0
    · exact ⟨(a, c), by simp, h1, h3⟩
    · exact ⟨(c, e), by simp, by have := cmp_T.anti k c; show cmpT c k ≤ 0; omega, h2⟩

theorem RdP.of_blk {w : World} {g : Nat} {T : TypeId} {cs : Array Value} {C : List Sp} (h : Blk w g T cs) (e : cs.toList = C.flatMap spL) : RdP w (some ⟨g, 0, none⟩) C :=
  ⟨sp_len C, fun _ => ⟨_, rfl, h.lt, fun j u hu => by rw [add_lit, Nat.zero_add, h.cell j, ← Array.getElem?_toList, e]; exact hu⟩⟩
/-- A set handed back, with its length under a name. -/
theorem OwnP.named {T : TypeId} {w : World} {base : Nat} {v : Value} {C : List Sp} (h : OwnP T w base v C) (N : Nat) (hN : C.length = N) : ∃ A c, v = .slice A N c ∧ (A = none → c = 0) ∧ RdP w A C := by
  obtain ⟨A, c, hv, _, hA, hr⟩ := h.reads
  rw [hN] at hv
  exact ⟨A, c, hv, hA, hr⟩

set_option maxRecDepth 100000 in
set_option maxHeartbeats 2000000 in
theorem law46_alive (w : World) : Calls Try.prog 28 #[] w fun e w' => e = .returned (.bool true) ∧ Below w.heap.size w w' := by
  obtain ⟨l, hl⟩ : ∃ l : List Sp, [(⟨#[97]⟩, ⟨#[99]⟩), (⟨#[99]⟩, ⟨#[101]⟩), (⟨#[120]⟩, ⟨#[120]⟩)] = l := ⟨_, rfl⟩
  have hx := ex46
  rw [hl] at hx
  obtain ⟨l2, hl2⟩ : ∃ l2 : List Sp, [((⟨#[97]⟩ : ByteArray), (⟨#[101]⟩ : ByteArray))] = l2 := ⟨_, rfl⟩
  rw [hl2] at hx
  have HX := Lib.hid hx
  have HL := Lib.hid hl
  have HL2 := Lib.hid hl2
  have bS := (Below.refl w.heap.size w).alloc (Nat.le_refl _) (.cells #[.string ⟨#[97]⟩, .string ⟨#[99]⟩, .string ⟨#[99]⟩, .string ⟨#[101]⟩, .string ⟨#[120]⟩, .string ⟨#[120]⟩] 41)
  have HR := Lib.hid (RdP.of_blk (C := l) (Blk.new w 41 #[.string ⟨#[97]⟩, .string ⟨#[99]⟩, .string ⟨#[99]⟩, .string ⟨#[101]⟩, .string ⟨#[120]⟩, .string ⟨#[120]⟩]) (by rw [← hl]; rfl))
  clear hx hl hl2
  go_enter Try.func28, Try.ntmps28
  go_wp2_with fail
  refine (spans_Of (some ⟨w.heap.size, 0, none⟩) 3 3 l _ HR.out (by rw [← HL.out]; rfl) (fun h => by cases h) (by omega)).mono ?_
  rintro e w1 ⟨v1, rfl, o1, b1⟩
  rw [HX.out] at o1
  have hB1 := bS.trans (b1.mono bS.size)
  obtain ⟨A1, c1, rfl, hA1, hr1⟩ := o1.named 1 (by rw [← HL2.out]; rfl)
  have bT := (Below.refl w1.heap.size w1).alloc (Nat.le_refl _) (.cells #[.slice A1 1 c1] 43)
  have BT := Blk.new w1 43 #[.slice A1 1 c1]
  have HR1 := Lib.hid (hr1.below bT)
  have hB2 := hB1.trans (bT.mono hB1.size)
  have q0 := BT.cell 0
  clear o1 hr1 HR bS
  go_wp2_with fail
  refine (set_All A1 1 c1 l2 _ HR1.out (by rw [← HL2.out]; rfl) hA1 (by omega)).mono ?_
  rintro e w2 ⟨v2, rfl, o2, b2⟩
  have hB3 := hB2.trans (b2.mono hB2.size)
  obtain ⟨A2, c2, rfl, hA2, hr2⟩ := o2.named 1 (by rw [← HL2.out]; rfl)
  have bU := (Below.refl w2.heap.size w2).alloc (Nat.le_refl _) (.cells #[.string ⟨#[97]⟩, .string ⟨#[101]⟩] 41)
  have HR2 := Lib.hid (hr2.below bU)
  have HR3 := Lib.hid (RdP.of_blk (C := l2) (Blk.new w2 41 #[.string ⟨#[97]⟩, .string ⟨#[101]⟩]) (by rw [← HL2.out]; rfl))
  have hB4 := hB3.trans (bU.mono hB3.size)
  clear o2 hr2
  go_wp2_with fail
  refine (spans_Equal A2 (some ⟨w2.heap.size, 0, none⟩) 1 1 c2 1 l2 l2 _ HR2.out HR3.out (by rw [← HL2.out]; rfl) (by rw [← HL2.out]; rfl) (by omega) (by omega)).mono ?_
  rintro e w3 ⟨rfl, b3⟩
  rw [show decide (l2 = l2) = true by simp]
  go_wp2_with fail
  go_ret
  exact ⟨rfl, hB4.trans (b3.mono hB4.size)⟩
end Go.Proofs.Ytomefcngaclehaa
