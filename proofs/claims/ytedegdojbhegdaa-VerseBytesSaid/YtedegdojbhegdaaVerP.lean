/- Plain: the version that bytes are of. No program is named here, and nothing is assumed. -/
import Derived.Test.YtedegdojbhegdaaParse
import Derived.Test.YtedegdojbhegdaaVerE
namespace Go.Proofs.Ytedegdojbhegdaa

theorem Sound.use {α : Type} {p : Prs α} {f : α → List UInt8} {Q : α → Prop} (h : Sound p f Q) {L : List UInt8} {k k' : Nat} {y y' : Int} {a : α} (e : p L k y = (a, k', y')) (hk : k ≤ L.length) (h0 : y' = 0) : y = 0 ∧ L.take k' = L.take k ++ f a ∧ Q a := by
  have := h L k y hk (by rw [e]; exact h0)
  rw [e] at this
  exact this
theorem Going.use {α : Type} {p : Prs α} (h : Going p) {L : List UInt8} {k k' : Nat} {y y' : Int} {a : α} (e : p L k y = (a, k', y')) (hk : k ≤ L.length) : k ≤ k' ∧ k' ≤ L.length := by
  have := h L k y hk
  rw [e] at this
  exact this
theorem Stays.use {α : Type} {p : Prs α} (h : Stays p) {L : List UInt8} {k k' : Nat} {y y' : Int} {a : α} (e : p L k y = (a, k', y')) (hy : y ≠ 0) : y' = y := by
  have := h L k y hy
  rw [e] at this
  exact this

/-- A table, a stamp, a version, as read. -/
def pTab : Prs (Int × Bool) := pThen pNum fun a => pThen (pCnt 1) fun b => pPure (a, decide (b = 1))
def pSt : Prs (Int × Int × Int) := pThen pNum fun a => pThen pNum fun b => pThen pNum fun c => pPure (a, b, c)
def pVer : Prs Ver := pThen pNum fun log => pThen pNum fun next => pThen (pCnt 64) fun c => pThen (pRep pTab c.toNat) fun T => pThen pSt fun fl => pThen pSt fun fe => pThen pSt fun se => pThen (pCnt 1) fun q => pPure ⟨log, next, T, fl, fe, se, decide (q = 1)⟩

theorem pTab_eq {L : List UInt8} {k k1 k2 : Nat} {y y1 y2 a b : Int} (h1 : pNum L k y = (a, k1, y1)) (h2 : pCnt 1 L k1 y1 = (b, k2, y2)) : pTab L k y = ((a, decide (b = 1)), k2, y2) := by
  unfold pTab
  rw [pThen_eq h1, pThen_eq h2]
  rfl
theorem pSt_eq {L : List UInt8} {k k1 k2 k3 : Nat} {y y1 y2 y3 a b c : Int} (h1 : pNum L k y = (a, k1, y1)) (h2 : pNum L k1 y1 = (b, k2, y2)) (h3 : pNum L k2 y2 = (c, k3, y3)) : pSt L k y = ((a, b, c), k3, y3) := by
  unfold pSt
  rw [pThen_eq h1, pThen_eq h2, pThen_eq h3]
  rfl
theorem pVer_eq {L : List UInt8} {k1 k2 k3 k4 k5 k6 k7 k8 : Nat} {y1 y2 y3 y4 y5 y6 y7 y8 log next c q : Int} {T : List (Int × Bool)} {fl fe se : Int × Int × Int}
    (h1 : pNum L 0 0 = (log, k1, y1)) (h2 : pNum L k1 y1 = (next, k2, y2)) (h3 : pCnt 64 L k2 y2 = (c, k3, y3)) (h4 : pRep pTab c.toNat L k3 y3 = (T, k4, y4)) (h5 : pSt L k4 y4 = (fl, k5, y5)) (h6 : pSt L k5 y5 = (fe, k6, y6)) (h7 : pSt L k6 y6 = (se, k7, y7)) (h8 : pCnt 1 L k7 y7 = (q, k8, y8)) :
    pVer L 0 0 = (⟨log, next, T, fl, fe, se, decide (q = 1)⟩, k8, y8) := by
  unfold pVer
  rw [pThen_eq h1, pThen_eq h2, pThen_eq h3, pThen_eq h4, pThen_eq h5, pThen_eq h6, pThen_eq h7, pThen_eq h8]
  rfl
theorem going_tab : Going pTab := going_then going_num fun _ => going_then (going_cnt 1) fun _ => going_pure _
theorem going_st : Going pSt := going_then going_num fun _ => going_then going_num fun _ => going_then going_num fun _ => going_pure _
theorem stays_tab : Stays pTab := stays_then stays_num fun _ => stays_then (stays_cnt 1) fun _ => stays_pure _
theorem stays_st : Stays pSt := stays_then stays_num fun _ => stays_then stays_num fun _ => stays_then stays_num fun _ => stays_pure _
theorem bit_put {b : Int} (h0 : 0 ≤ b) (h1 : b ≤ 1) : wputI (b01 (decide (b = 1))) = wputI b := by
  have : b = 0 ∨ b = 1 := by omega
  rcases this with rfl | rfl <;> rfl
def NIn (x : Int) : Prop := 0 ≤ x ∧ x < 4611686018427387904
theorem sound_tab : Sound pTab tput (fun t => NIn t.1) := fun L k y hk h0 => by
  obtain ⟨a, k1, y1, h1⟩ : ∃ a k1 y1, pNum L k y = (a, k1, y1) := ⟨_, _, _, rfl⟩
  obtain ⟨b, k2, y2, h2⟩ : ∃ a k' y', pCnt 1 L k1 y1 = (a, k', y') := ⟨_, _, _, rfl⟩
  have e := pTab_eq h1 h2
  rw [e] at h0 ⊢
  have g1 := going_num.use h1 hk
  obtain ⟨z1, t2, q2⟩ := (sound_cnt 1).use h2 g1.2 h0
  obtain ⟨z0, t1, q1⟩ := sound_num.use h1 hk z1
  refine ⟨z0, ?_, q1⟩
  dsimp only
  rw [t2, t1, List.append_assoc]
  unfold tput
  rw [bit_put q2.1 q2.2.1]
theorem sound_st : Sound pSt sput (fun s => NIn s.1 ∧ NIn s.2.1 ∧ NIn s.2.2) := fun L k y hk h0 => by
  obtain ⟨a, k1, y1, h1⟩ : ∃ a k1 y1, pNum L k y = (a, k1, y1) := ⟨_, _, _, rfl⟩
  obtain ⟨b, k2, y2, h2⟩ : ∃ a k1' y1', pNum L k1 y1 = (a, k1', y1') := ⟨_, _, _, rfl⟩
  obtain ⟨c, k3, y3, h3⟩ : ∃ a k1' y1', pNum L k2 y2 = (a, k1', y1') := ⟨_, _, _, rfl⟩
  have e := pSt_eq h1 h2 h3
  rw [e] at h0 ⊢
  have g1 := going_num.use h1 hk
  have g2 := going_num.use h2 g1.2
  obtain ⟨z2, t3, q3⟩ := sound_num.use h3 g2.2 h0
  obtain ⟨z1, t2, q2⟩ := sound_num.use h2 g1.2 z2
  obtain ⟨z0, t1, q1⟩ := sound_num.use h1 hk z1
  refine ⟨z0, ?_, q1, q2, q3⟩
  dsimp only
  rw [t3, t2, t1]
  simp [sput]
theorem whole_tab (t : Int × Bool) (h : NIn t.1) : Whole pTab t (tput t) := by
  have hb : NIn (b01 t.2) ∧ b01 t.2 ≤ 1 := by cases t.2 <;> simp [b01, NIn]
  have h1 := whole_then (p := pNum) (g := fun a => pThen (pCnt 1) fun b => pPure (a, decide (b = 1))) (whole_num t.1 h.1 h.2) (whole_then (p := pCnt 1) (g := fun b => pPure (t.1, decide (b = 1))) (whole_cnt 1 (b01 t.2) hb.1.1 hb.1.2 hb.2) (whole_pure _))
  rw [List.append_nil] at h1
  have e : ((t.1, decide (b01 t.2 = 1)) : Int × Bool) = t := by
    obtain ⟨a, b⟩ := t
    cases b <;> rfl
  rw [e] at h1
  exact h1
theorem whole_st (s : Int × Int × Int) (h : NIn s.1 ∧ NIn s.2.1 ∧ NIn s.2.2) : Whole pSt s (sput s) := by
  have h1 := whole_then (p := pNum) (g := fun a => pThen pNum fun b => pThen pNum fun c => pPure (a, b, c)) (whole_num s.1 h.1.1 h.1.2) (whole_then (p := pNum) (g := fun b => pThen pNum fun c => pPure (s.1, b, c)) (whole_num s.2.1 h.2.1.1 h.2.1.2) (whole_then (p := pNum) (g := fun c => pPure (s.1, s.2.1, c)) (whole_num s.2.2 h.2.2.1 h.2.2.2) (whole_pure _)))
  have e : sput s = wputI s.1 ++ (wputI s.2.1 ++ (wputI s.2.2 ++ [])) := by simp [sput]
  rw [e]
  exact h1

/-- The numbers are those that may be put. -/
structure Ver.Nat (v : Ver) : Prop where
  log : NIn v.log
  next : NIn v.next
  len : v.tabs.length ≤ 64
  tabs : ∀ t ∈ v.tabs, NIn t.1
  fl : NIn v.fl.1 ∧ NIn v.fl.2.1 ∧ NIn v.fl.2.2
  fe : NIn v.fe.1 ∧ NIn v.fe.2.1 ∧ NIn v.fe.2.2
  se : NIn v.se.1 ∧ NIn v.se.2.1 ∧ NIn v.se.2.2
theorem vput_assoc (v : Ver) : vput v = wputI v.log ++ (wputI v.next ++ (wputI v.tabs.length ++ (v.tabs.flatMap tput ++ (sput v.fl ++ (sput v.fe ++ (sput v.se ++ wputI (b01 v.quar))))))) := by
  simp [vput, vhead]
theorem sound_ver {L : List UInt8} {v : Ver} {k : Nat} (h : pVer L 0 0 = (v, k, 0)) : k ≤ L.length ∧ L.take k = vput v ∧ v.Nat := by
  obtain ⟨log, k1, y1, h1⟩ : ∃ a k' y', pNum L 0 0 = (a, k', y') := ⟨_, _, _, rfl⟩
  obtain ⟨next, k2, y2, h2⟩ : ∃ a k' y', pNum L k1 y1 = (a, k', y') := ⟨_, _, _, rfl⟩
  obtain ⟨c, k3, y3, h3⟩ : ∃ a k' y', pCnt 64 L k2 y2 = (a, k', y') := ⟨_, _, _, rfl⟩
  obtain ⟨T, k4, y4, h4⟩ : ∃ a k' y', pRep pTab c.toNat L k3 y3 = (a, k', y') := ⟨_, _, _, rfl⟩
  obtain ⟨fl, k5, y5, h5⟩ : ∃ a k' y', pSt L k4 y4 = (a, k', y') := ⟨_, _, _, rfl⟩
  obtain ⟨fe, k6, y6, h6⟩ : ∃ a k' y', pSt L k5 y5 = (a, k', y') := ⟨_, _, _, rfl⟩
  obtain ⟨se, k7, y7, h7⟩ : ∃ a k' y', pSt L k6 y6 = (a, k', y') := ⟨_, _, _, rfl⟩
  obtain ⟨q, k8, y8, h8⟩ : ∃ a k' y', pCnt 1 L k7 y7 = (a, k', y') := ⟨_, _, _, rfl⟩
  rw [pVer_eq h1 h2 h3 h4 h5 h6 h7 h8] at h
  simp only [Prod.mk.injEq] at h
  obtain ⟨rfl, rfl, h0⟩ := h
  have g1 := going_num.use h1 (Nat.zero_le _)
  have g2 := going_num.use h2 g1.2
  have g3 := (going_cnt 64).use h3 g2.2
  have g4 := (going_rep going_tab c.toNat).use h4 g3.2
  have g5 := going_st.use h5 g4.2
  have g6 := going_st.use h6 g5.2
  have g7 := going_st.use h7 g6.2
  have g8 := (going_cnt 1).use h8 g7.2
  obtain ⟨z7, t8, q8⟩ := (sound_cnt 1).use h8 g7.2 h0
  obtain ⟨z6, t7, q7⟩ := sound_st.use h7 g6.2 z7
  obtain ⟨z5, t6, q6⟩ := sound_st.use h6 g5.2 z6
  obtain ⟨z4, t5, q5⟩ := sound_st.use h5 g4.2 z5
  obtain ⟨z3, t4, q4⟩ := (sound_rep going_tab sound_tab c.toNat).use h4 g3.2 z4
  obtain ⟨z2, t3, q3⟩ := (sound_cnt 64).use h3 g2.2 z3
  obtain ⟨z1, t2, q2⟩ := sound_num.use h2 g1.2 z2
  obtain ⟨_, t1, q1⟩ := sound_num.use h1 (Nat.zero_le _) z1
  refine ⟨g8.2, ?_, ⟨q1, q2, by show T.length ≤ 64; omega, q4.2, q5, q6, q7⟩⟩
  rw [vput_assoc, t8, t7, t6, t5, t4, t3, t2, t1]
  have e : ((T.length : Nat) : Int) = c := by omega
  simp only [List.take_zero, List.nil_append, List.append_assoc, e, bit_put q8.1 q8.2.1]
theorem whole_ver (v : Ver) (h : v.Nat) : pVer (vput v) 0 0 = (v, (vput v).length, 0) := by
  have hb : NIn (b01 v.quar) ∧ b01 v.quar ≤ 1 := by cases v.quar <;> simp [b01, NIn]
  have hl := h.len
  have h8 := whole_then (p := pCnt 1) (g := fun q => pPure (⟨v.log, v.next, v.tabs, v.fl, v.fe, v.se, decide (q = 1)⟩ : Ver)) (whole_cnt 1 (b01 v.quar) hb.1.1 hb.1.2 hb.2) (whole_pure _)
  have h7 := whole_then (p := pSt) (g := fun se => pThen (pCnt 1) fun q => pPure (⟨v.log, v.next, v.tabs, v.fl, v.fe, se, decide (q = 1)⟩ : Ver)) (whole_st v.se h.se) h8
  have h6 := whole_then (p := pSt) (g := fun fe => pThen pSt fun se => pThen (pCnt 1) fun q => pPure (⟨v.log, v.next, v.tabs, v.fl, fe, se, decide (q = 1)⟩ : Ver)) (whole_st v.fe h.fe) h7
  have h5 := whole_then (p := pSt) (g := fun fl => pThen pSt fun fe => pThen pSt fun se => pThen (pCnt 1) fun q => pPure (⟨v.log, v.next, v.tabs, fl, fe, se, decide (q = 1)⟩ : Ver)) (whole_st v.fl h.fl) h6
  have h4 := whole_then (p := pRep pTab v.tabs.length) (g := fun T => pThen pSt fun fl => pThen pSt fun fe => pThen pSt fun se => pThen (pCnt 1) fun q => pPure (⟨v.log, v.next, T, fl, fe, se, decide (q = 1)⟩ : Ver)) (whole_rep (Q := fun t => NIn t.1) whole_tab v.tabs h.tabs) h5
  have h3 := whole_then (p := pCnt 64) (g := fun c => pThen (pRep pTab c.toNat) fun T => pThen pSt fun fl => pThen pSt fun fe => pThen pSt fun se => pThen (pCnt 1) fun q => pPure (⟨v.log, v.next, T, fl, fe, se, decide (q = 1)⟩ : Ver)) (whole_cnt 64 (v.tabs.length : Int) (by omega) (by omega) (by omega)) h4
  have h2 := whole_then (p := pNum) (g := fun next => pThen (pCnt 64) fun c => pThen (pRep pTab c.toNat) fun T => pThen pSt fun fl => pThen pSt fun fe => pThen pSt fun se => pThen (pCnt 1) fun q => pPure (⟨v.log, next, T, fl, fe, se, decide (q = 1)⟩ : Ver)) (whole_num v.next h.next.1 h.next.2) h3
  have h1 := whole_then (p := pNum) (g := fun log => pThen pNum fun next => pThen (pCnt 64) fun c => pThen (pRep pTab c.toNat) fun T => pThen pSt fun fl => pThen pSt fun fe => pThen pSt fun se => pThen (pCnt 1) fun q => pPure (⟨log, next, T, fl, fe, se, decide (q = 1)⟩ : Ver)) (whole_num v.log h.log.1 h.log.2) h2
  have h0 := h1 [] []
  simp only [List.nil_append, List.append_nil, List.length_nil, Nat.zero_add] at h0
  rw [vput_assoc]
  have e : (⟨v.log, v.next, v.tabs, v.fl, v.fe, v.se, decide (b01 v.quar = 1)⟩ : Ver) = v := by
    obtain ⟨_, _, _, _, _, _, q⟩ := v
    cases q <;> rfl
  rw [e] at h0
  exact h0

/-- What bytes are read as: the version, and the fault. -/
noncomputable def vgWhy (L : List UInt8) (v : Ver) (k : Nat) (y : Int) : Int :=
  if 0 < L.length - k ∧ (if y = 0 ∧ vrtB v = false then (31 : Int) else y) = 0 then 31 else if y = 0 ∧ vrtB v = false then 31 else y
noncomputable def vgAll (L : List UInt8) : Ver × Int := ((pVer L 0 0).1, vgWhy L (pVer L 0 0).1 (pVer L 0 0).2.1 (pVer L 0 0).2.2)
theorem vgAll_take {L : List UInt8} (h : (vgAll L).2 = 0) : L = vput (vgAll L).1 ∧ VRt (vgAll L).1 ∧ (vgAll L).1.Nat := by
  obtain ⟨v, k, y, e⟩ : ∃ v k y, pVer L 0 0 = (v, k, y) := ⟨_, _, _, rfl⟩
  unfold vgAll vgWhy at h ⊢
  rw [e] at h ⊢
  dsimp only at h ⊢
  by_cases hr : y = 0 ∧ vrtB v = false
  · rw [if_pos hr] at h
    simp at h
  · rw [if_neg hr] at h
    split at h
    · simp at h
    · rename_i hl
      subst h
      obtain ⟨h1, h2, h3⟩ := sound_ver e
      have hk : k = L.length := by
        rcases Nat.lt_or_ge k L.length with h | h
        · exact absurd ⟨by omega, rfl⟩ hl
        · omega
      subst hk
      rw [List.take_length] at h2
      refine ⟨h2, ?_, h3⟩
      cases hb : vrtB v with
      | true => exact vrt_of hb
      | false => exact absurd ⟨rfl, hb⟩ hr
theorem vgAll_vput (v : Ver) (hn : v.Nat) (hr : VRt v) : vgAll (vput v) = (v, 0) := by
  unfold vgAll vgWhy
  rw [whole_ver v hn]
  dsimp only
  rw [vrtB_yes hr]
  simp
theorem sok_in {s : Int × Int × Int} (h : SOk s) : NIn s.1 ∧ NIn s.2.1 ∧ NIn s.2.2 := by
  unfold SOk sokB rightB at h
  simp only [Bool.or_eq_true, Bool.and_eq_true, beq_iff_eq, decide_eq_true_eq] at h
  unfold NIn
  omega
theorem vrt_nat {v : Ver} (h : VRt v) : v.Nat := by
  obtain ⟨⟨a, b, c, d⟩, ht, h1, h2, h3⟩ := h
  refine ⟨⟨a, by omega⟩, ⟨by omega, by omega⟩, d, fun t hm => ?_, sok_in h1, sok_in h2, sok_in h3⟩
  obtain ⟨i, hi, rfl⟩ := List.mem_iff_getElem.1 hm
  have := ht i _ (List.getElem?_eq_getElem hi)
  unfold TabOk at this
  unfold NIn
  omega
theorem nat_in {v : Ver} (h : v.Nat) : v.In := by
  obtain ⟨a, b, _, c, d, e, f⟩ := h
  have q : ∀ x, NIn x → x ≤ 9223372036854775807 := fun x h => by unfold NIn at h; omega
  exact ⟨q _ a, q _ b, fun t ht => q _ (c t ht), ⟨q _ d.1, q _ d.2.1, q _ d.2.2⟩, ⟨q _ e.1, q _ e.2.1, q _ e.2.2⟩, ⟨q _ f.1, q _ f.2.1, q _ f.2.2⟩⟩
end Go.Proofs.Ytedegdojbhegdaa
