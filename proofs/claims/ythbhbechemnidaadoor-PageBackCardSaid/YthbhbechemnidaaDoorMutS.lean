/- Plain: which mutations may be. No program is named here, and nothing is assumed. Plain: the mutation that bytes are of. No program is named here, and nothing is assumed. -/
import Derived.Test.YthbhbechemnidaaDoorMutI
import Derived.Test.YthbhbechemnidaaDoorRnK
import Derived.Test.YthbhbechemnidaaDoorParseS
import Derived.Test.YthbhbechemnidaaDoorMutP
namespace Go.Proofs.YthbhbechemnidaaDoor
open Go.RowKit Go.Sort

/-- May there be such a mutation? -/
def MutRt (m : Mut) : Prop := right3 m.at_ = true ∧ keyB m.key = true ∧ OverOk m.ov m.at_ ∧ 0 ≤ m.exp ∧ m.exp ≤ 1099511627776 ∧ (m.exp ≠ 0 → m.kind = 1 ∧ m.tab = 1) ∧ (m.val.size ≠ 0 → m.kind = 1) ∧ valB m.val = true ∧
  (m.kind = 3 → keyB m.en = true ∧ Op.bytesLess m.key.toList m.en.toList = true) ∧ (m.kind ≠ 3 → m.en.size = 0) ∧ ((m.tab = 1 ∧ m.ov.length = 0 ∧ 1 ≤ m.kind ∧ m.kind ≤ 3) ∨ (m.tab = 2 ∧ 1 ≤ m.kind ∧ m.kind ≤ 2))
noncomputable def mrtB (m : Mut) : Bool := @decide (MutRt m) (Classical.propDecidable _)
theorem mrtB_no {m : Mut} (h : ¬ MutRt m) : mrtB m = false := @decide_eq_false _ (Classical.propDecidable _) h
theorem mrtB_yes {m : Mut} (h : MutRt m) : mrtB m = true := @decide_eq_true _ (Classical.propDecidable _) h
theorem mrt_of {m : Mut} (h : mrtB m = true) : MutRt m := @of_decide_eq_true _ (Classical.propDecidable _) h
end Go.Proofs.YthbhbechemnidaaDoor

namespace Go.Proofs.YthbhbechemnidaaDoor
open Go.RowKit Go.Sort

def mutZ : Mut := ⟨0, 0, ⟨#[]⟩, ⟨#[]⟩, ⟨#[]⟩, 0, (0, 0, 0), []⟩
/-- A text of bytes. -/
def tx (l : List UInt8) : ByteArray := ⟨l.toArray⟩
theorem bs_tx (l : List UInt8) : bs (tx l) = l := rfl
theorem tx_bs (s : ByteArray) : tx (bs s) = s := rfl
theorem tx_size (l : List UInt8) : (tx l).size = l.length := rfl
/-- All of a mutation but its key, as read. -/
def pBody (key : ByteArray) : Prs Mut := pThen pNum fun tab => pThen pNum fun kind => pThen (pTxt 24) fun en => pThen (pTxt 64) fun val => pThen pNum fun ex => pThen pSt fun at_ => pThen (pCnt 24) fun c => pThen (pRep pSt c.toNat) fun ov => pPure ⟨tab, kind, key, tx en, tx val, ex, at_, ov⟩
theorem pBody_eq {key : ByteArray} {L : List UInt8} {k0 k1 k2 k3 k4 k5 k6 k7 k8 : Nat} {y0 y1 y2 y3 y4 y5 y6 y7 y8 tab kind ex c : Int} {en val : List UInt8} {at_ : Int × Int × Int} {ov : List (Int × Int × Int)}
    (h1 : pNum L k0 y0 = (tab, k1, y1)) (h2 : pNum L k1 y1 = (kind, k2, y2)) (h3 : pTxt 24 L k2 y2 = (en, k3, y3)) (h4 : pTxt 64 L k3 y3 = (val, k4, y4)) (h5 : pNum L k4 y4 = (ex, k5, y5)) (h6 : pSt L k5 y5 = (at_, k6, y6)) (h7 : pCnt 24 L k6 y6 = (c, k7, y7)) (h8 : pRep pSt c.toNat L k7 y7 = (ov, k8, y8)) :
    pBody key L k0 y0 = (⟨tab, kind, key, tx en, tx val, ex, at_, ov⟩, k8, y8) := by
  unfold pBody
  rw [pThen_eq h1, pThen_eq h2, pThen_eq h3, pThen_eq h4, pThen_eq h5, pThen_eq h6, pThen_eq h7, pThen_eq h8]
  rfl
theorem going_body (key : ByteArray) : Going (pBody key) := going_then going_num fun _ => going_then going_num fun _ => going_then (going_txt 24) fun _ => going_then (going_txt 64) fun _ => going_then going_num fun _ => going_then going_st fun _ => going_then (going_cnt 24) fun _ => going_then (going_rep going_st _) fun _ => going_pure _
theorem stays_body (key : ByteArray) : Stays (pBody key) := stays_then stays_num fun _ => stays_then stays_num fun _ => stays_then (stays_txt 24) fun _ => stays_then (stays_txt 64) fun _ => stays_then stays_num fun _ => stays_then stays_st fun _ => stays_then (stays_cnt 24) fun _ => stays_then (stays_rep stays_st _) fun _ => stays_pure _
/-- What reading a body gives: numbers that may be put. -/
structure MutN (m : Mut) : Prop where
  tab : NIn m.tab
  kind : NIn m.kind
  exp : NIn m.exp
  at_ : NIn m.at_.1 ∧ NIn m.at_.2.1 ∧ NIn m.at_.2.2
  ov : ∀ s ∈ m.ov, NIn s.1 ∧ NIn s.2.1 ∧ NIn s.2.2
  en : m.en.size ≤ 24
  val : m.val.size ≤ 64
  len : m.ov.length ≤ 24
theorem mrest_assoc (m : Mut) : mrest m = wputI m.tab ++ (wputI m.kind ++ (wtext (bs m.en) ++ (wtext (bs m.val) ++ (wputI m.exp ++ (sput m.at_ ++ (wputI m.ov.length ++ m.ov.flatMap sput)))))) := by
  simp [mrest, mhead]
theorem sound_body (key : ByteArray) : Sound (pBody key) mrest (fun m => m.key = key ∧ MutN m) := fun L k y hk h0 => by
  obtain ⟨tab, k1, y1, h1⟩ : ∃ a k' y', pNum L k y = (a, k', y') := ⟨_, _, _, rfl⟩
  obtain ⟨kind, k2, y2, h2⟩ : ∃ a k' y', pNum L k1 y1 = (a, k', y') := ⟨_, _, _, rfl⟩
  obtain ⟨en, k3, y3, h3⟩ : ∃ a k' y', pTxt 24 L k2 y2 = (a, k', y') := ⟨_, _, _, rfl⟩
  obtain ⟨val, k4, y4, h4⟩ : ∃ a k' y', pTxt 64 L k3 y3 = (a, k', y') := ⟨_, _, _, rfl⟩
  obtain ⟨ex, k5, y5, h5⟩ : ∃ a k' y', pNum L k4 y4 = (a, k', y') := ⟨_, _, _, rfl⟩
  obtain ⟨at_, k6, y6, h6⟩ : ∃ a k' y', pSt L k5 y5 = (a, k', y') := ⟨_, _, _, rfl⟩
  obtain ⟨c, k7, y7, h7⟩ : ∃ a k' y', pCnt 24 L k6 y6 = (a, k', y') := ⟨_, _, _, rfl⟩
  obtain ⟨ov, k8, y8, h8⟩ : ∃ a k' y', pRep pSt c.toNat L k7 y7 = (a, k', y') := ⟨_, _, _, rfl⟩
  have e := pBody_eq (key := key) h1 h2 h3 h4 h5 h6 h7 h8
  rw [e] at h0 ⊢
  have g1 := going_num.use h1 hk
  have g2 := going_num.use h2 g1.2
  have g3 := (going_txt 24).use h3 g2.2
  have g4 := (going_txt 64).use h4 g3.2
  have g5 := going_num.use h5 g4.2
  have g6 := going_st.use h6 g5.2
  have g7 := (going_cnt 24).use h7 g6.2
  obtain ⟨z7, t8, q8⟩ := (sound_rep going_st sound_st c.toNat).use h8 g7.2 h0
  obtain ⟨z6, t7, q7⟩ := (sound_cnt 24).use h7 g6.2 z7
  obtain ⟨z5, t6, q6⟩ := sound_st.use h6 g5.2 z6
  obtain ⟨z4, t5, q5⟩ := sound_num.use h5 g4.2 z5
  obtain ⟨z3, t4, q4⟩ := (sound_txt 64).use h4 g3.2 z4
  obtain ⟨z2, t3, q3⟩ := (sound_txt 24).use h3 g2.2 z3
  obtain ⟨z1, t2, q2⟩ := sound_num.use h2 g1.2 z2
  obtain ⟨z0, t1, q1⟩ := sound_num.use h1 hk z1
  refine ⟨z0, ?_, rfl, ⟨q1, q2, q5, q6, q8.2, by show en.length ≤ 24; omega, by show val.length ≤ 64; omega, by show ov.length ≤ 24; omega⟩⟩
  dsimp only
  rw [mrest_assoc, t8, t7, t6, t5, t4, t3, t2, t1]
  have ec : ((ov.length : Nat) : Int) = c := by omega
  simp only [List.append_assoc, ec, bs_tx]
theorem whole_body (m : Mut) (h : MutN m) : Whole (pBody m.key) m (mrest m) := by
  have hl := h.len
  have he : (bs m.en).length = m.en.size := bs_length _
  have hv : (bs m.val).length = m.val.size := bs_length _
  have h1 := h.en
  have h2 := h.val
  have w8 := whole_then (p := pRep pSt m.ov.length) (g := fun ov => pPure (⟨m.tab, m.kind, m.key, tx (bs m.en), tx (bs m.val), m.exp, m.at_, ov⟩ : Mut)) (whole_rep (Q := fun s => NIn s.1 ∧ NIn s.2.1 ∧ NIn s.2.2) whole_st m.ov h.ov) (whole_pure _)
  have w7 := whole_then (p := pCnt 24) (g := fun c => pThen (pRep pSt c.toNat) fun ov => pPure (⟨m.tab, m.kind, m.key, tx (bs m.en), tx (bs m.val), m.exp, m.at_, ov⟩ : Mut)) (whole_cnt 24 (m.ov.length : Int) (by omega) (by omega) (by omega)) w8
  have w6 := whole_then (p := pSt) (g := fun at_ => pThen (pCnt 24) fun c => pThen (pRep pSt c.toNat) fun ov => pPure (⟨m.tab, m.kind, m.key, tx (bs m.en), tx (bs m.val), m.exp, at_, ov⟩ : Mut)) (whole_st m.at_ h.at_) w7
  have w5 := whole_then (p := pNum) (g := fun ex => pThen pSt fun at_ => pThen (pCnt 24) fun c => pThen (pRep pSt c.toNat) fun ov => pPure (⟨m.tab, m.kind, m.key, tx (bs m.en), tx (bs m.val), ex, at_, ov⟩ : Mut)) (whole_num m.exp h.exp.1 h.exp.2) w6
  have w4 := whole_then (p := pTxt 64) (g := fun val => pThen pNum fun ex => pThen pSt fun at_ => pThen (pCnt 24) fun c => pThen (pRep pSt c.toNat) fun ov => pPure (⟨m.tab, m.kind, m.key, tx (bs m.en), tx val, ex, at_, ov⟩ : Mut)) (whole_txt 64 (bs m.val) (by omega) (by omega)) w5
  have w3 := whole_then (p := pTxt 24) (g := fun en => pThen (pTxt 64) fun val => pThen pNum fun ex => pThen pSt fun at_ => pThen (pCnt 24) fun c => pThen (pRep pSt c.toNat) fun ov => pPure (⟨m.tab, m.kind, m.key, tx en, tx val, ex, at_, ov⟩ : Mut)) (whole_txt 24 (bs m.en) (by omega) (by omega)) w4
  have w2 := whole_then (p := pNum) (g := fun kind => pThen (pTxt 24) fun en => pThen (pTxt 64) fun val => pThen pNum fun ex => pThen pSt fun at_ => pThen (pCnt 24) fun c => pThen (pRep pSt c.toNat) fun ov => pPure (⟨m.tab, kind, m.key, tx en, tx val, ex, at_, ov⟩ : Mut)) (whole_num m.kind h.kind.1 h.kind.2) w3
  have w1 := whole_then (p := pNum) (g := fun tab => pThen pNum fun kind => pThen (pTxt 24) fun en => pThen (pTxt 64) fun val => pThen pNum fun ex => pThen pSt fun at_ => pThen (pCnt 24) fun c => pThen (pRep pSt c.toNat) fun ov => pPure (⟨tab, kind, m.key, tx en, tx val, ex, at_, ov⟩ : Mut)) (whole_num m.tab h.tab.1 h.tab.2) w2
  rw [List.append_nil] at w1
  rw [mrest_assoc]
  exact w1
theorem right_in {s : Int × Int × Int} (h : right3 s = true) : NIn s.1 ∧ NIn s.2.1 ∧ NIn s.2.2 := by
  unfold right3 rightB at h
  have := of_decide_eq_true h
  unfold NIn
  omega
theorem key_size {s : ByteArray} (h : keyB s = true) : s.size ≤ 24 := by
  unfold keyB at h
  simp only [Bool.and_eq_true, decide_eq_true_eq] at h
  exact h.1.2
theorem val_size {s : ByteArray} (h : valB s = true) : s.size ≤ 64 := by
  unfold valB at h
  simp only [Bool.and_eq_true, decide_eq_true_eq] at h
  exact h.1
theorem mutN_of {m : Mut} (h : MutRt m) : MutN m := by
  obtain ⟨g1, g2, g3, g4, g5, g6, g7, g8, g9, g10, g11⟩ := h
  refine ⟨?_, ?_, ?_, right_in g1, fun s hs => ?_, ?_, val_size g8, g3.1⟩
  · unfold NIn; omega
  · unfold NIn; omega
  · unfold NIn; omega
  · obtain ⟨i, hi, rfl⟩ := List.mem_iff_getElem.1 hs
    exact right_in (g3.2 i hi _ (List.getElem?_eq_getElem hi)).1
  · by_cases h3 : m.kind = 3
    · exact key_size (g9 h3).1
    · rw [g10 h3]; omega
theorem mutI_of {m : Mut} (h : MutRt m) : MutI m := by
  have n := mutN_of h
  have hk := key_size h.2.1
  obtain ⟨a, b, c, d, e, f, g, i⟩ := n
  unfold NIn at a b c d e
  exact ⟨by omega, by omega, by omega, ⟨by omega, by omega, by omega⟩, fun s hs => by have := e s hs; omega, by omega, by omega, by omega, by omega⟩

/-- The fault behind a body: ErrMut, if such a mutation may not be. -/
noncomputable def mwWhy (m : Mut) (y : Int) : Int := if y = 0 ∧ mrtB m = false then 70 else y
noncomputable def pWith (key : ByteArray) : Prs Mut := fun L k y => (if mwWhy (pBody key L k y).1 (pBody key L k y).2.2 = 0 then (pBody key L k y).1 else mutZ, (pBody key L k y).2.1, mwWhy (pBody key L k y).1 (pBody key L k y).2.2)
noncomputable def pGet : Prs Mut := pThen (pTxt 24) fun key => pWith (tx key)
theorem mwWhy_zero {m : Mut} {y : Int} (h : mwWhy m y = 0) : y = 0 ∧ MutRt m := by
  unfold mwWhy at h
  split at h
  · cases h
  · rename_i h1
    refine ⟨h, ?_⟩
    cases hb : mrtB m with
    | true => exact mrt_of hb
    | false => exact absurd ⟨h, hb⟩ h1
theorem pWith_eq {key : ByteArray} {L : List UInt8} {k k' : Nat} {y y' : Int} {m : Mut} (h : pBody key L k y = (m, k', y')) : pWith key L k y = (if mwWhy m y' = 0 then m else mutZ, k', mwWhy m y') := by
  unfold pWith
  rw [h]
theorem going_with (key : ByteArray) : Going (pWith key) := fun L k y hk => going_body key L k y hk
theorem stays_with (key : ByteArray) : Stays (pWith key) := fun L k y hy => by
  have h := stays_body key L k y hy
  show mwWhy _ (pBody key L k y).2.2 = y
  rw [h]
  unfold mwWhy
  rw [if_neg (fun h => hy h.1)]
theorem sound_with (key : ByteArray) : Sound (pWith key) mrest (fun m => m.key = key ∧ MutRt m) := fun L k y hk h0 => by
  obtain ⟨m, k', y', e⟩ : ∃ a k' y', pBody key L k y = (a, k', y') := ⟨_, _, _, rfl⟩
  have e2 := pWith_eq e
  rw [e2] at h0 ⊢
  dsimp only at h0 ⊢
  rw [if_pos h0]
  obtain ⟨h1, h2⟩ := mwWhy_zero h0
  obtain ⟨z, t, q⟩ := (sound_body key).use e hk h1
  exact ⟨z, t, q.1, h2⟩
theorem whole_with (m : Mut) (h : MutRt m) : Whole (pWith m.key) m (mrest m) := fun pre r => by
  have e := whole_body m (mutN_of h) pre r
  rw [pWith_eq e]
  have h0 : mwWhy m 0 = 0 := by
    unfold mwWhy
    rw [mrtB_yes h]
    simp
  rw [h0, if_pos rfl]
theorem going_get : Going pGet := going_then (going_txt 24) fun _ => going_with _
theorem stays_get : Stays pGet := stays_then (stays_txt 24) fun _ => stays_with _
theorem sound_get : Sound pGet mput MutRt := fun L k y hk h0 => by
  obtain ⟨key, k1, y1, h1⟩ : ∃ a k' y', pTxt 24 L k y = (a, k', y') := ⟨_, _, _, rfl⟩
  obtain ⟨m, k2, y2, h2⟩ : ∃ a k' y', pWith (tx key) L k1 y1 = (a, k', y') := ⟨_, _, _, rfl⟩
  have e : pGet L k y = (m, k2, y2) := by
    unfold pGet
    rw [pThen_eq h1, h2]
  rw [e] at h0 ⊢
  have g1 := (going_txt 24).use h1 hk
  obtain ⟨z1, t2, q2⟩ := (sound_with (tx key)).use h2 g1.2 h0
  obtain ⟨z0, t1, q1⟩ := (sound_txt 24).use h1 hk z1
  refine ⟨z0, ?_, q2.2⟩
  dsimp only
  rw [t2, t1]
  unfold mput
  rw [q2.1, bs_tx, List.append_assoc]
theorem whole_get (m : Mut) (h : MutRt m) : Whole pGet m (mput m) := by
  have hk := key_size h.2.1
  have hb : (bs m.key).length = m.key.size := bs_length _
  exact whole_then (p := pTxt 24) (g := fun key => pWith (tx key)) (whole_txt 24 (bs m.key) (by omega) (by omega)) (whole_with m h)
/-- A row of mutations, as read. -/
noncomputable def pList (most : Int) : Prs (List Mut) := pThen (pCnt most) fun c => pRep pGet c.toNat
theorem whole_list (M : List Mut) (most : Int) (h : ∀ m ∈ M, MutRt m) (hl : M.length ≤ 1000000) (hm : (M.length : Int) ≤ most) : Whole (pList most) M (mall M) := by
  have := whole_then (p := pCnt most) (g := fun c => pRep pGet c.toNat) (whole_cnt most (M.length : Int) (by omega) (by omega) hm) (whole_rep (Q := MutRt) whole_get M h)
  exact this
end Go.Proofs.YthbhbechemnidaaDoor
