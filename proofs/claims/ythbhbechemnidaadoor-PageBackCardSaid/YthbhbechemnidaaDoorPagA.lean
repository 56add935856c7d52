/- Plain: pages of mutations as bytes, and the page that bytes are of. No program is named here, and nothing is assumed. Contracts of page.shared and of the reference's: how many bytes two texts of runes begin with that are the same. -/
import Derived.Test.YthbhbechemnidaaDoorMutS
import Derived.Test.YthbhbechemnidaaDoorRnRT
import Derived.Test.YthbhbechemnidaaDoorMemA
import Derived.Test.YthbhbechemnidaaDoorConv
namespace Go.Proofs.YthbhbechemnidaaDoor
open Go.RowKit Go.Sort

/-- The runes that two rows begin with. -/
def cpR : List Nat → List Nat → List Nat
  | a :: x, b :: y => if a = b then a :: cpR x y else []
  | _, _ => []
theorem cpR_left : ∀ x y : List Nat, cpR x y <+: x
  | [], _ => by simp [cpR]
  | a :: x, [] => by simp [cpR]
  | a :: x, b :: y => by
    unfold cpR
    split
    · exact (List.cons_prefix_cons).2 ⟨rfl, cpR_left x y⟩
    · exact List.nil_prefix
theorem cpR_right : ∀ x y : List Nat, cpR x y <+: y
  | [], _ => by simp [cpR]
  | a :: x, [] => by simp [cpR]
  | a :: x, b :: y => by
    unfold cpR
    split
    · rename_i h
      subst h
      exact (List.cons_prefix_cons).2 ⟨rfl, cpR_right x y⟩
    · exact List.nil_prefix
/-- How many bytes two texts begin with that are the same, rune by rune. -/
def sh (a b : ByteArray) : Nat := (encs (cpR (rest a 0) (rest b 0))).length
theorem encs_prefix {x y : List Nat} (h : x <+: y) : encs x <+: encs y := by
  obtain ⟨t, rfl⟩ := h
  exact ⟨encs t, (encs_append x t).symm⟩
theorem sh_left {a b : ByteArray} (ha : allRunes a = true) : sh a b ≤ a.size := by
  have h := (encs_prefix (cpR_left (rest a 0) (rest b 0))).length_le
  rw [← bl_valid a ha, bl_length] at h
  exact h
theorem sh_right {a b : ByteArray} (hb : allRunes b = true) : sh a b ≤ b.size := by
  have h := (encs_prefix (cpR_right (rest a 0) (rest b 0))).length_le
  rw [← bl_valid b hb, bl_length] at h
  exact h
theorem sh_take {a b : ByteArray} (ha : allRunes a = true) (hb : allRunes b = true) : (bl a).take (sh a b) = (bl b).take (sh a b) := by
  have h1 := List.prefix_iff_eq_take.1 (encs_prefix (cpR_left (rest a 0) (rest b 0)))
  have h2 := List.prefix_iff_eq_take.1 (encs_prefix (cpR_right (rest a 0) (rest b 0)))
  rw [bl_valid a ha, bl_valid b hb]
  exact h1.symm.trans h2
theorem valid_nil : allRunes ⟨#[]⟩ = true := valid_enc ⟨#[]⟩ [] (fun _ h => by cases h) rfl
theorem bs_bl (s : ByteArray) : bs s = bl s := rfl

/-- The bytes of mutations, each behind a key. -/
def pgBody : ByteArray → List Mut → List UInt8
  | _, [] => []
  | last, m :: t => wput (sh last m.key) ++ wtext ((bs m.key).drop (sh last m.key)) ++ mrest m ++ pgBody m.key t
def pgPut (M : List Mut) : List UInt8 := wput M.length ++ pgBody ⟨#[]⟩ M
theorem wputI_nat (n : Nat) : wputI (n : Int) = wput n := by unfold wputI; rw [Int.toNat_natCast]

/-- The mutation that comes next, behind a key. -/
noncomputable def pOne (last : ByteArray) : Prs Mut := fun L k y =>
  if (pTxt 24 L (pCnt last.size L k y).2.1 (pCnt last.size L k y).2.2).2.2 = 0 then
    ((pWith (tx ((bs last).take (pCnt last.size L k y).1.toNat ++ (pTxt 24 L (pCnt last.size L k y).2.1 (pCnt last.size L k y).2.2).1)) L (pTxt 24 L (pCnt last.size L k y).2.1 (pCnt last.size L k y).2.2).2.1 0).1,
     (pWith (tx ((bs last).take (pCnt last.size L k y).1.toNat ++ (pTxt 24 L (pCnt last.size L k y).2.1 (pCnt last.size L k y).2.2).1)) L (pTxt 24 L (pCnt last.size L k y).2.1 (pCnt last.size L k y).2.2).2.1 0).2.1,
     if (pWith (tx ((bs last).take (pCnt last.size L k y).1.toNat ++ (pTxt 24 L (pCnt last.size L k y).2.1 (pCnt last.size L k y).2.2).1)) L (pTxt 24 L (pCnt last.size L k y).2.1 (pCnt last.size L k y).2.2).2.1 0).2.2 = 0 ∧
        (sh last (tx ((bs last).take (pCnt last.size L k y).1.toNat ++ (pTxt 24 L (pCnt last.size L k y).2.1 (pCnt last.size L k y).2.2).1)) : Int) ≠ (pCnt last.size L k y).1 then 31
     else (pWith (tx ((bs last).take (pCnt last.size L k y).1.toNat ++ (pTxt 24 L (pCnt last.size L k y).2.1 (pCnt last.size L k y).2.2).1)) L (pTxt 24 L (pCnt last.size L k y).2.1 (pCnt last.size L k y).2.2).2.1 0).2.2)
  else (mutZ, (pTxt 24 L (pCnt last.size L k y).2.1 (pCnt last.size L k y).2.2).2.1, (pTxt 24 L (pCnt last.size L k y).2.1 (pCnt last.size L k y).2.2).2.2)
theorem pOne_bad {last : ByteArray} {L : List UInt8} {k k1 k2 : Nat} {y y1 y2 n : Int} {t : List UInt8} (h1 : pCnt last.size L k y = (n, k1, y1)) (h2 : pTxt 24 L k1 y1 = (t, k2, y2)) (h : y2 ≠ 0) : pOne last L k y = (mutZ, k2, y2) := by
  unfold pOne
  rw [h1]
  dsimp only
  rw [h2]
  dsimp only
  rw [if_neg h]
theorem pOne_eq {last : ByteArray} {L : List UInt8} {k k1 k2 k3 : Nat} {y y1 y3 n : Int} {t : List UInt8} {m : Mut} (h1 : pCnt last.size L k y = (n, k1, y1)) (h2 : pTxt 24 L k1 y1 = (t, k2, 0)) (h3 : pWith (tx ((bs last).take n.toNat ++ t)) L k2 0 = (m, k3, y3)) :
    pOne last L k y = (m, k3, if y3 = 0 ∧ (sh last (tx ((bs last).take n.toNat ++ t)) : Int) ≠ n then 31 else y3) := by
  unfold pOne
  rw [h1]
  dsimp only
  rw [h2]
  dsimp only
  rw [if_pos rfl, h3]
theorem going_one (last : ByteArray) : Going (pOne last) := fun L k y hk => by
  obtain ⟨n, k1, y1, h1⟩ : ∃ a k' y', pCnt last.size L k y = (a, k', y') := ⟨_, _, _, rfl⟩
  obtain ⟨t, k2, y2, h2⟩ : ∃ a k' y', pTxt 24 L k1 y1 = (a, k', y') := ⟨_, _, _, rfl⟩
  have g1 := (going_cnt _).use h1 hk
  have g2 := (going_txt 24).use h2 g1.2
  by_cases h0 : y2 = 0
  · subst h0
    obtain ⟨m, k3, y3, h3⟩ : ∃ a k' y', pWith (tx ((bs last).take n.toNat ++ t)) L k2 0 = (a, k', y') := ⟨_, _, _, rfl⟩
    have g3 := (going_with _).use h3 g2.2
    rw [pOne_eq h1 h2 h3]
    dsimp only
    omega
  · rw [pOne_bad h1 h2 h0]
    dsimp only
    omega
theorem good_valid : ∀ (l : List (Nat × Nat)) (b : Bool), goodK l b = true → (l.all fun p => !badD p.1 p.2) = true
  | [], _, _ => rfl
  | (r, d) :: t, b, h => by
    rw [goodK, Bool.and_eq_true, Bool.and_eq_true] at h
    rw [List.all_cons, h.1.1, good_valid t false h.2]
    rfl
theorem key_valid {s : ByteArray} (h : keyB s = true) : allRunes s = true := by
  unfold keyB at h
  simp only [Bool.and_eq_true] at h
  exact good_valid _ _ h.2
/-- What one reads behind a key was put behind that key. -/
theorem sound_one (last : ByteArray) : Sound (pOne last) (fun m => wput (sh last m.key) ++ wtext ((bs m.key).drop (sh last m.key)) ++ mrest m) MutRt := fun L k y hk h0 => by
  obtain ⟨n, k1, y1, h1⟩ : ∃ a k' y', pCnt last.size L k y = (a, k', y') := ⟨_, _, _, rfl⟩
  obtain ⟨t, k2, y2, h2⟩ : ∃ a k' y', pTxt 24 L k1 y1 = (a, k', y') := ⟨_, _, _, rfl⟩
  have g1 := (going_cnt _).use h1 hk
  have g2 := (going_txt 24).use h2 g1.2
  by_cases hy : y2 = 0
  · subst hy
    obtain ⟨m, k3, y3, h3⟩ : ∃ a k' y', pWith (tx ((bs last).take n.toNat ++ t)) L k2 0 = (a, k', y') := ⟨_, _, _, rfl⟩
    have e := pOne_eq h1 h2 h3
    rw [e] at h0 ⊢
    dsimp only at h0 ⊢
    have hy3 : y3 = 0 ∧ (sh last (tx ((bs last).take n.toNat ++ t)) : Int) = n := by
      split at h0
      · cases h0
      · rename_i hn
        refine ⟨h0, Classical.byContradiction fun hx => hn ⟨h0, hx⟩⟩
    obtain ⟨rfl, hsh⟩ := hy3
    obtain ⟨_, t3, hkey, hrt⟩ := (sound_with _).use h3 g2.2 rfl
    obtain ⟨z1, t2, _⟩ := (sound_txt 24).use h2 g1.2 rfl
    obtain ⟨z0, t1, q1⟩ := (sound_cnt _).use h1 hk z1
    refine ⟨z0, ?_, hrt⟩
    rw [t3, t2, t1]
    have hn : n.toNat = sh last m.key := by rw [hkey]; omega
    have hle : n.toNat ≤ (bs last).length := by rw [bs_length]; omega
    have hd : (bs m.key).drop (sh last m.key) = t := by
      rw [← hn, hkey, bs_tx]
      have : ((bs last).take n.toNat).length = n.toNat := by rw [List.length_take]; omega
      conv => lhs; rw [← this]
      rw [List.length_take, Nat.min_eq_left hle] 
      rw [List.drop_append_of_le_length (by rw [List.length_take]; omega)]
      rw [List.drop_of_length_le (by rw [List.length_take]; omega), List.nil_append]
    rw [hd, ← hn]
    have : wputI n = wput n.toNat := rfl
    rw [this]
    simp [List.append_assoc]
  · rw [pOne_bad h1 h2 hy] at h0
    exact absurd h0 hy
/-- What was put behind a key is read behind it. -/
theorem whole_one (last : ByteArray) (hv : allRunes last = true) (m : Mut) (h : MutRt m) (hls : last.size ≤ 1000000) : Whole (pOne last) m (wput (sh last m.key) ++ wtext ((bs m.key).drop (sh last m.key)) ++ mrest m) := fun pre r => by
  have hkv := key_valid h.2.1
  have hks := key_size h.2.1
  have hl := sh_left (b := m.key) hv
  have hr := sh_right (a := last) hkv
  have hlen : ((bs m.key).drop (sh last m.key)).length = m.key.size - sh last m.key := by rw [List.length_drop, bs_length]
  have w1 := whole_cnt (last.size : Int) (sh last m.key : Int) (by omega) (by omega) (by omega) pre (wtext ((bs m.key).drop (sh last m.key)) ++ (mrest m ++ r))
  rw [wputI_nat] at w1
  have w2 := whole_txt 24 ((bs m.key).drop (sh last m.key)) (by omega) (by omega) (pre ++ wput (sh last m.key)) (mrest m ++ r)
  have hk : (bs last).take (sh last m.key) ++ (bs m.key).drop (sh last m.key) = bs m.key := by
    rw [bs_bl, bs_bl, sh_take hv hkv, List.take_append_drop]
  have w3 := whole_with m h (pre ++ wput (sh last m.key) ++ wtext ((bs m.key).drop (sh last m.key))) r
  have e1 : pre ++ wput (sh last m.key) ++ (wtext ((bs m.key).drop (sh last m.key)) ++ (mrest m ++ r)) = pre ++ ((wput (sh last m.key) ++ wtext ((bs m.key).drop (sh last m.key)) ++ mrest m) ++ r) := by simp [List.append_assoc]
  have e0 : pre ++ (wput (sh last m.key) ++ (wtext ((bs m.key).drop (sh last m.key)) ++ (mrest m ++ r))) = pre ++ ((wput (sh last m.key) ++ wtext ((bs m.key).drop (sh last m.key)) ++ mrest m) ++ r) := by simp [List.append_assoc]
  have e2 : pre ++ wput (sh last m.key) ++ wtext ((bs m.key).drop (sh last m.key)) ++ (mrest m ++ r) = pre ++ ((wput (sh last m.key) ++ wtext ((bs m.key).drop (sh last m.key)) ++ mrest m) ++ r) := by simp [List.append_assoc]
  rw [e0] at w1
  rw [e1, List.length_append] at w2
  rw [e2, List.length_append, List.length_append] at w3
  have w3' : pWith (tx ((bs last).take ((sh last m.key : Int)).toNat ++ (bs m.key).drop (sh last m.key))) (pre ++ ((wput (sh last m.key) ++ wtext ((bs m.key).drop (sh last m.key)) ++ mrest m) ++ r)) (pre.length + (wput (sh last m.key)).length + (wtext ((bs m.key).drop (sh last m.key))).length) 0 = (m, pre.length + (wput (sh last m.key)).length + (wtext ((bs m.key).drop (sh last m.key))).length + (mrest m).length, 0) := by
    rw [Int.toNat_natCast, hk, tx_bs]
    exact w3
  rw [pOne_eq w1 w2 w3', Int.toNat_natCast, hk, tx_bs, if_neg (by simp)]
  simp only [List.length_append, Nat.add_assoc]

/-- The key that the last one has. -/
def lastK (out : List Mut) : ByteArray := match out.getLast? with | none => ⟨#[]⟩ | some p => p.key
/-- Does the next one rise? -/
def risesB (out : List Mut) (m : Mut) : Bool := match out.getLast? with | none => true | some p => decide (cmpMem p m < 0)
noncomputable def pStep (out : List Mut) : Prs Mut := fun L k y => ((pOne (lastK out) L k y).1, (pOne (lastK out) L k y).2.1, if (pOne (lastK out) L k y).2.2 = 0 ∧ risesB out (pOne (lastK out) L k y).1 = false then 31 else (pOne (lastK out) L k y).2.2)
theorem pStep_eq {out : List Mut} {L : List UInt8} {k k1 : Nat} {y y1 : Int} {m : Mut} (h : pOne (lastK out) L k y = (m, k1, y1)) : pStep out L k y = (m, k1, if y1 = 0 ∧ risesB out m = false then 31 else y1) := by
  unfold pStep
  rw [h]
noncomputable def pLoop : Nat → List Mut → Prs (List Mut)
  | 0, out => fun _ k y => (out, k, y)
  | n + 1, out => fun L k y => if (pStep out L k y).2.2 = 0 then pLoop n (out ++ [(pStep out L k y).1]) L (pStep out L k y).2.1 0 else ([], (pStep out L k y).2.1, (pStep out L k y).2.2)
noncomputable def pPage : Prs (List Mut) := fun L k y =>
  if (pCnt 8 L k y).2.2 = 0 then pLoop (pCnt 8 L k y).1.toNat [] L (pCnt 8 L k y).2.1 0 else ([], (pCnt 8 L k y).2.1, (pCnt 8 L k y).2.2)
theorem going_step (out : List Mut) : Going (pStep out) := fun L k y hk => going_one (lastK out) L k y hk
theorem going_loop : ∀ (n : Nat) (out : List Mut), Going (pLoop n out)
  | 0, _ => fun _ _ _ hk => ⟨Nat.le_refl _, hk⟩
  | n + 1, out => fun L k y hk => by
    have g := going_step out L k y hk
    unfold pLoop
    split
    · have := going_loop n (out ++ [(pStep out L k y).1]) L (pStep out L k y).2.1 0 g.2
      omega
    · exact g
theorem going_page : Going pPage := fun L k y hk => by
  have g := going_cnt 8 L k y hk
  unfold pPage
  split
  · have := going_loop (pCnt 8 L k y).1.toNat [] L (pCnt 8 L k y).2.1 0 g.2
    omega
  · exact g
theorem lastK_snoc (out : List Mut) (m : Mut) : lastK (out ++ [m]) = m.key := by unfold lastK; simp
theorem body_snoc : ∀ (out : List Mut) (last : ByteArray) (m : Mut), pgBody last (out ++ [m]) = pgBody last out ++ (wput (sh (match out.getLast? with | none => last | some p => p.key) m.key) ++ wtext ((bs m.key).drop (sh (match out.getLast? with | none => last | some p => p.key) m.key)) ++ mrest m)
  | [], last, m => by simp [pgBody]
  | [a], last, m => by simp [pgBody]
  | a :: b :: t, last, m => by
    have ih := body_snoc (b :: t) a.key m
    rw [show (a :: b :: t) ++ [m] = a :: ((b :: t) ++ [m]) from rfl]
    have e : (a :: b :: t).getLast? = (b :: t).getLast? := by simp [List.getLast?_cons]
    have e2 : (match (b :: t).getLast? with | none => a.key | some p => p.key) = (match (b :: t).getLast? with | none => last | some p => p.key) := by
      cases h : (b :: t).getLast? with
      | none => simp at h
      | some p => rfl
    rw [e]
    show wput (sh last a.key) ++ wtext ((bs a.key).drop (sh last a.key)) ++ mrest a ++ pgBody a.key ((b :: t) ++ [m]) = (wput (sh last a.key) ++ wtext ((bs a.key).drop (sh last a.key)) ++ mrest a ++ pgBody a.key (b :: t)) ++ _
    rw [ih, e2]
    simp only [List.append_assoc]
theorem body_snoc0 (out : List Mut) (m : Mut) : pgBody ⟨#[]⟩ (out ++ [m]) = pgBody ⟨#[]⟩ out ++ (wput (sh (lastK out) m.key) ++ wtext ((bs m.key).drop (sh (lastK out) m.key)) ++ mrest m) := body_snoc out ⟨#[]⟩ m
/-- Mutations that may be, and rise. -/
structure PgOk (out : List Mut) : Prop where
  rt : ∀ m ∈ out, MutRt m
  up : SortM out
theorem PgOk.nil_ : PgOk [] := ⟨(fun _ h => by cases h), List.Pairwise.nil⟩
theorem PgOk.lastv {out : List Mut} (h : PgOk out) : allRunes (lastK out) = true ∧ (lastK out).size ≤ 24 := by
  unfold lastK
  cases hg : out.getLast? with
  | none => exact ⟨valid_nil, Nat.zero_le _⟩
  | some p =>
    have hk := (h.rt p (List.mem_of_getLast? hg)).2.1
    exact ⟨key_valid hk, key_size hk⟩
theorem PgOk.snoc {out : List Mut} {m : Mut} (h : PgOk out) (hm : MutRt m) (hr : risesB out m = true) : PgOk (out ++ [m]) := by
  refine ⟨fun x hx => ?_, ?_⟩
  · rcases List.mem_append.1 hx with hx | hx
    · exact h.rt x hx
    · rw [List.mem_singleton.1 hx]
      exact hm
  · refine List.pairwise_append.2 ⟨h.up, List.pairwise_singleton _ _, fun a ha b hb => ?_⟩
    rw [List.mem_singleton.1 hb]
    unfold risesB at hr
    cases hg : out.getLast? with
    | none => rw [List.getLast?_eq_none_iff.1 hg] at ha; cases ha
    | some p =>
      rw [hg] at hr
      have hp : cmpMem p m < 0 := of_decide_eq_true hr
      obtain ⟨ini, rfl⟩ : ∃ ini, out = ini ++ [p] := by
        obtain ⟨ini, hi⟩ := List.getLast?_eq_some_iff.1 hg
        exact ⟨ini, hi⟩
      rcases List.mem_append.1 ha with ha | ha
      · have := (List.pairwise_append.1 h.up).2.2 a ha p (List.mem_singleton_self _)
        exact lt_tr this (Int.le_of_lt hp)
      · rw [List.mem_singleton.1 ha]
        exact hp
theorem rises_of {out t : List Mut} {m : Mut} (h : SortM (out ++ m :: t)) : risesB out m = true := by
  unfold risesB
  cases hg : out.getLast? with
  | none => rfl
  | some p => exact decide_eq_true ((List.pairwise_append.1 h).2.2 p (List.mem_of_getLast? hg) m (List.mem_cons_self ..))
theorem sound_loop : ∀ (n : Nat) (out : List Mut) (L : List UInt8) (k : Nat) (y : Int), PgOk out → k ≤ L.length → y = 0 → (pLoop n out L k y).2.2 = 0 →
    ∃ t, (pLoop n out L k y).1 = out ++ t ∧ t.length = n ∧ PgOk (out ++ t) ∧ ∀ pre : List UInt8, L.take k = pre ++ pgBody ⟨#[]⟩ out → L.take (pLoop n out L k y).2.1 = pre ++ pgBody ⟨#[]⟩ (out ++ t)
  | 0, out, L, k, y, ho, hk, hy, h0 => ⟨[], by simp [pLoop], rfl, by rw [List.append_nil]; exact ho, fun pre h => by rw [List.append_nil]; exact h⟩
  | n + 1, out, L, k, y, ho, hk, hy, h0 => by
    subst hy
    obtain ⟨m, k1, y1, h1⟩ : ∃ a k' y', pOne (lastK out) L k 0 = (a, k', y') := ⟨_, _, _, rfl⟩
    have e1 := pStep_eq h1
    have g1 := (going_one _).use h1 hk
    unfold pLoop at h0 ⊢
    rw [e1] at h0 ⊢
    dsimp only at h0 ⊢
    by_cases hz : (if y1 = 0 ∧ risesB out m = false then (31 : Int) else y1) = 0
    · rw [if_pos hz] at h0 ⊢
      have hy1 : y1 = 0 ∧ risesB out m = true := by
        split at hz
        · cases hz
        · rename_i hn
          refine ⟨hz, ?_⟩
          cases hb : risesB out m with
          | true => rfl
          | false => exact absurd ⟨hz, hb⟩ hn
      obtain ⟨rfl, hr⟩ := hy1
      obtain ⟨_, t1, q1⟩ := (sound_one _).use h1 hk rfl
      obtain ⟨t, a1, a2, a3, a4⟩ := sound_loop n (out ++ [m]) L k1 0 (ho.snoc q1 hr) g1.2 rfl h0
      refine ⟨m :: t, ?_, by rw [List.length_cons, a2], ?_, fun pre hp => ?_⟩
      · rw [a1]; simp
      · have : out ++ m :: t = (out ++ [m]) ++ t := by simp
        rw [this]; exact a3
      · have : out ++ m :: t = (out ++ [m]) ++ t := by simp
        rw [this]
        refine a4 pre ?_
        rw [t1, hp, body_snoc0, List.append_assoc]
    · rw [if_neg hz] at h0
      exact absurd h0 hz
theorem sound_page : Sound pPage pgPut (fun M => PgOk M ∧ M.length ≤ 8) := fun L k y hk h0 => by
  obtain ⟨c, k1, y1, h1⟩ : ∃ a k' y', pCnt 8 L k y = (a, k', y') := ⟨_, _, _, rfl⟩
  have g1 := (going_cnt 8).use h1 hk
  unfold pPage at h0 ⊢
  rw [h1] at h0 ⊢
  dsimp only at h0 ⊢
  by_cases hy : y1 = 0
  · rw [if_pos hy] at h0 ⊢
    obtain ⟨z0, t1, q1⟩ := (sound_cnt 8).use h1 hk hy
    obtain ⟨t, a1, a2, a3, a4⟩ := sound_loop c.toNat [] L k1 0 PgOk.nil_ g1.2 rfl h0
    rw [List.nil_append] at a1 a3 a4
    refine ⟨z0, ?_, ?_⟩
    · rw [a1]
      have := a4 (L.take k ++ wputI c) (by rw [t1]; simp [pgBody])
      rw [this]
      unfold pgPut
      have hc : wputI c = wput t.length := by rw [a2]; rfl
      rw [hc, List.append_assoc]
    · rw [a1]
      exact ⟨a3, by omega⟩
  · rw [if_neg hy] at h0
    exact absurd h0 hy
theorem whole_loop : ∀ (t out : List Mut), PgOk (out ++ t) → ∀ pre r : List UInt8, pLoop t.length out (pre ++ (pgBody ⟨#[]⟩ out ++ ((pgBody (lastK out) t) ++ r))) (pre.length + (pgBody ⟨#[]⟩ out).length) 0 = (out ++ t, pre.length + (pgBody ⟨#[]⟩ out).length + (pgBody (lastK out) t).length, 0)
  | [], out, _, pre, r => by simp [pLoop, pgBody]
  | m :: t, out, h, pre, r => by
    have hm : MutRt m := h.rt m (by simp)
    have ho : PgOk out := ⟨fun x hx => h.rt x (List.mem_append_left _ hx), (List.pairwise_append.1 h.up).1⟩
    have hw := whole_one (lastK out) ho.lastv.1 m hm (by have := ho.lastv.2; omega) (pre ++ pgBody ⟨#[]⟩ out) (pgBody m.key t ++ r)
    have e0 : pre ++ pgBody ⟨#[]⟩ out ++ (wput (sh (lastK out) m.key) ++ wtext ((bs m.key).drop (sh (lastK out) m.key)) ++ mrest m ++ (pgBody m.key t ++ r)) = pre ++ (pgBody ⟨#[]⟩ out ++ (pgBody (lastK out) (m :: t) ++ r)) := by
      show _ = pre ++ (pgBody ⟨#[]⟩ out ++ ((wput (sh (lastK out) m.key) ++ wtext ((bs m.key).drop (sh (lastK out) m.key)) ++ mrest m ++ pgBody m.key t) ++ r))
      simp only [List.append_assoc]
    rw [e0, List.length_append] at hw
    have e1 := pStep_eq hw
    rw [rises_of h.up, if_neg (by simp)] at e1
    have h' : PgOk ((out ++ [m]) ++ t) := by
      have e : (out ++ [m]) ++ t = out ++ m :: t := by simp
      rw [e]
      exact h
    have ih := whole_loop t (out ++ [m]) h' pre r
    rw [lastK_snoc, body_snoc0] at ih
    have e2 : pre ++ (pgBody ⟨#[]⟩ out ++ (wput (sh (lastK out) m.key) ++ wtext ((bs m.key).drop (sh (lastK out) m.key)) ++ mrest m) ++ (pgBody m.key t ++ r)) = pre ++ (pgBody ⟨#[]⟩ out ++ (pgBody (lastK out) (m :: t) ++ r)) := by
      rw [← e0]
      simp only [List.append_assoc]
    rw [e2, List.length_append, ← Nat.add_assoc] at ih
    rw [List.length_cons]
    unfold pLoop
    rw [e1]
    dsimp only
    rw [if_pos rfl, ih]
    have e3 : (pgBody (lastK out) (m :: t)).length = (wput (sh (lastK out) m.key) ++ wtext ((bs m.key).drop (sh (lastK out) m.key)) ++ mrest m).length + (pgBody m.key t).length := by
      show (wput (sh (lastK out) m.key) ++ wtext ((bs m.key).drop (sh (lastK out) m.key)) ++ mrest m ++ pgBody m.key t).length = _
      rw [List.length_append]
    rw [e3]
    refine Prod.ext (by simp) (Prod.ext ?_ rfl)
    dsimp only
    omega
theorem whole_page (M : List Mut) (h : PgOk M) (hl : M.length ≤ 8) : Whole pPage M (pgPut M) := fun pre r => by
  have w1 := whole_cnt 8 (M.length : Int) (by omega) (by omega) (by omega) pre (pgBody ⟨#[]⟩ M ++ r)
  rw [wputI_nat] at w1
  have w2 := whole_loop M [] h (pre ++ wput M.length) r
  have e : pre ++ (wput M.length ++ (pgBody ⟨#[]⟩ M ++ r)) = pre ++ (pgPut M ++ r) := by unfold pgPut; simp only [List.append_assoc]
  have e2 : pre ++ wput M.length ++ (pgBody ⟨#[]⟩ [] ++ (pgBody (lastK []) M ++ r)) = pre ++ (pgPut M ++ r) := by
    show pre ++ wput M.length ++ ([] ++ (pgBody ⟨#[]⟩ M ++ r)) = _
    rw [← e]
    simp only [List.append_assoc, List.nil_append]
  rw [e] at w1
  rw [e2, List.length_append] at w2
  unfold pPage
  rw [w1]
  dsimp only
  rw [if_pos rfl, Int.toNat_natCast]
  have w2' : pLoop M.length [] (pre ++ (pgPut M ++ r)) (pre.length + (wput M.length).length) 0 = ([] ++ M, pre.length + (wput M.length).length + 0 + (pgBody ⟨#[]⟩ M).length, 0) := w2
  rw [w2']
  unfold pgPut
  simp only [List.nil_append, List.length_append, Nat.add_zero, Nat.add_assoc]
end Go.Proofs.YthbhbechemnidaaDoor

namespace Go.Proofs.YthbhbechemnidaaDoor
open Go.RowKit Go.Sort

/-- Up to a place two texts are the same, and of what they share the rest is to come. -/
structure ShRel (a b : ByteArray) (k : Nat) : Prop where
  ka : k ≤ a.size
  kb : k ≤ b.size
  da : (bl a).drop k = encs (rest a k)
  db : (bl b).drop k = encs (rest b k)
  s : sh a b = k + (encs (cpR (rest a k) (rest b k))).length
theorem ShRel.start {a b : ByteArray} (ha : allRunes a = true) (hb : allRunes b = true) : ShRel a b 0 := ⟨Nat.zero_le _, Nat.zero_le _, by rw [List.drop_zero]; exact bl_valid a ha, by rw [List.drop_zero]; exact bl_valid b hb, by rw [Nat.zero_add]; rfl⟩
theorem ShRel.done {a b : ByteArray} {k : Nat} (h : ShRel a b k) (hk : a.size ≤ k) : sh a b = k := by
  rw [h.s, rest_end a k hk]
  rfl
section
variable {a b : ByteArray} {k r d : Nat}
theorem ShRel.len (h : ShRel a b k) (hk : k < a.size) (hD : Utf8.decode a k = (r, d)) (hd : 1 ≤ d) : (enc r).length = d ∧ k + d ≤ a.size ∧ ((bl a).drop k).take d = enc r ∧ rest a k = r :: rest a (k + d) := by
  have e := rest_cons a k hk hD hd
  have hda := h.da
  rw [e, encs_cons] at hda
  have h2 := decode_enc a k r _ hda (rest_sc a k r (by rw [e]; exact List.mem_cons_self ..))
  rw [hD] at h2
  injection h2 with _ h2
  have hl := congrArg List.length hda
  rw [List.length_drop, bl_length, List.length_append] at hl
  refine ⟨h2.symm, by omega, ?_, e⟩
  rw [hda, h2, List.take_left]
/-- The other text goes on with the same rune just if it goes on with its bytes. -/
theorem ShRel.same (h : ShRel a b k) (hk : k < a.size) (hD : Utf8.decode a k = (r, d)) (hd : 1 ≤ d) : (∃ t, rest b k = r :: t) ↔ (k + d ≤ b.size ∧ ((bl b).drop k).take d = enc r) := by
  obtain ⟨hl, _, _, e⟩ := h.len hk hD hd
  constructor
  · rintro ⟨t, ht⟩
    have hdb := h.db
    rw [ht, encs_cons] at hdb
    have hll := congrArg List.length hdb
    rw [List.length_drop, bl_length, List.length_append] at hll
    have := h.kb
    exact ⟨by omega, by rw [hdb, ← hl, List.take_left]⟩
  · rintro ⟨h1, h2⟩
    have hsr := rest_sc a k r (by rw [e]; exact List.mem_cons_self ..)
    have hdb : (bl b).drop k = enc r ++ ((bl b).drop k).drop d := by rw [← h2, List.take_append_drop]
    have h3 := decode_enc b k r _ hdb hsr
    have := enc_pos r hsr
    exact ⟨_, rest_cons b k (by omega) h3 this⟩
theorem ShRel.stop (h : ShRel a b k) (hk : k < a.size) (hD : Utf8.decode a k = (r, d)) (hd : 1 ≤ d) (hn : ¬ (k + d ≤ b.size ∧ ((bl b).drop k).take d = enc r)) : sh a b = k := by
  obtain ⟨hl, _, _, e⟩ := h.len hk hD hd
  have hc : cpR (rest a k) (rest b k) = [] := by
    rw [e]
    cases hb : rest b k with
    | nil => rfl
    | cons x t =>
      unfold cpR
      rw [if_neg]
      intro hx
      subst hx
      exact hn ((h.same hk hD hd).1 ⟨t, hb⟩)
  rw [h.s, hc]
  rfl
theorem ShRel.step (h : ShRel a b k) (hk : k < a.size) (hD : Utf8.decode a k = (r, d)) (hd : 1 ≤ d) (hy : k + d ≤ b.size ∧ ((bl b).drop k).take d = enc r) : ShRel a b (k + d) := by
  obtain ⟨hl, hle, _, e⟩ := h.len hk hD hd
  obtain ⟨t, ht⟩ := (h.same hk hD hd).2 hy
  have hdb : (bl b).drop k = enc r ++ ((bl b).drop k).drop d := by rw [← hy.2, List.take_append_drop]
  have h3 := decode_enc b k r _ hdb (rest_sc a k r (by rw [e]; exact List.mem_cons_self ..))
  rw [hl] at h3
  have e2 := rest_cons b k (by omega) h3 hd
  have hda := h.da
  have hdb := h.db
  rw [e, encs_cons] at hda
  rw [e2, encs_cons] at hdb
  refine ⟨hle, hy.1, ?_, ?_, ?_⟩
  · rw [← List.drop_drop, hda, ← hl, List.drop_left]
  · rw [← List.drop_drop, hdb, ← hl, List.drop_left]
  · have hc : cpR (r :: rest a (k + d)) (r :: rest b (k + d)) = r :: cpR (rest a (k + d)) (rest b (k + d)) := if_pos rfl
    rw [h.s, e, e2, hc, encs_cons, List.length_append, hl, Nat.add_assoc]
end
theorem ext_same (a b : ByteArray) (k d r : Nat) (ha : ((bl a).drop k).take d = enc r) : ((a.extract k (k + d)).toList == (b.extract k (k + d)).toList) = decide (((bl b).drop k).take d = enc r) := by
  have h1 : (a.extract k (k + d)).toList = enc r := by
    rw [Lib.toList_data]
    show bl _ = _
    rw [bl_extract, List.drop_take, Nat.add_sub_cancel_left]
    exact ha
  have h2 : (b.extract k (k + d)).toList = ((bl b).drop k).take d := by
    rw [Lib.toList_data]
    show bl _ = _
    rw [bl_extract, List.drop_take, Nat.add_sub_cancel_left]
  rw [h1, h2, Bool.eq_iff_iff, beq_iff_eq, decide_eq_true_eq]
  exact eq_comm

set_option maxRecDepth 100000 in
set_option maxHeartbeats 2000000 in
theorem page_shared (a b : ByteArray) (ha : allRunes a = true) (hb : allRunes b = true) (hsa : a.size ≤ 1000000) (hsb : b.size ≤ 1000000) (w : World) :
    Calls Tryd.prog 95 #[.string a, .string b] w fun e w' => e = .returned (.int .i64 (sh a b)) ∧ Below w.heap.size w w' := by
  have HST := Lib.hid (ShRel.start ha hb)
  obtain ⟨S, hS⟩ : ∃ S, sh a b = S := ⟨_, rfl⟩
  have HS := Lib.hid hS
  rw [hS]
  clear hS ha hb
  go_enter Tryd.func95, Tryd.ntmps95
  go_wp2_with fail
  go_loopw [5, 6, 7, 8] (fun v5 _ _ _ wr => ∃ k : Nat, v5 = .int .i64 k ∧ It wr w.heap.size a k ∧ w.heap.size < wr.heap.size ∧ Below w.heap.size w wr ∧ ShRel a b k) (fun _ _ _ _ wr => a.size - wr.iterPos w.heap.size)
  case atStart => exact ⟨0, rfl, It.new _ _ _, (It.new _ _ _).lt, below_iter (Below.refl _ _) (Nat.le_refl _) _ _, HST.out⟩
  case round =>
    clear HST
    obtain ⟨k, rfl, BI, hlt, hB, hsh⟩ := hrel
    have hpos := BI.pos
    have HSH := Lib.hid hsh
    clear hsh
    by_cases hk : k < a.size
    · obtain ⟨r, d, hD, hd1, hr, _⟩ := decode_some a k hk
      obtain ⟨hl, hle, hta, _⟩ := HSH.out.len hk hD hd1
      have hnx : ∀ ty, (Instr.next (.pointer (some ⟨w.heap.size, 0, none⟩)) true ty).run Tryd.prog wr = .ok (.tuple #[.bool true, .int .i64 k, .int .i32 r]) (wr.iterAt w.heap.size a (k + d)) := by
        intro ty
        rw [Lib.run_next_any_at wr _ a k ty BI hk, hD]
      have BI2 := BI.at_ (k + d)
      have hB2 := Lib.below_iterAt hB (k := w.heap.size) (Nat.le_refl _) a (k + d)
      have hlt2 := BI2.lt
      have HPOS := Lib.hid hpos
      have hen : (Utf8.encode (r : Int)).size = d := by rw [← bl_length]; exact hl
      have HD := Lib.hid hD
      have HX := Lib.hid (ext_same a b k d r hta)
      obtain ⟨E, hE⟩ : ∃ E, Utf8.encode (r : Int) = E := ⟨_, rfl⟩
      rw [hE] at hen
      clear hD BI hB hlt hpos hl hta
      generalize wr.iterAt w.heap.size a (k + d) = w2 at *
      have BI3 : It w2.drew w.heap.size a (k + d) := BI2.drewN 1
      have hB3 : Below w.heap.size w w2.drew := below_drewN hB2 1
      by_cases hkb : k + d ≤ b.size
      · obtain ⟨q, hq⟩ : ∃ q, ((a.extract k (k + d)).toList == (b.extract k (k + d)).toList) = q := ⟨_, rfl⟩
        have HQ : Hid (q = decide (((bl b).drop k).take d = enc r)) := Lib.hid (by rw [← hq]; exact HX.out)
        clear HX
        have hgt : decide ((b.size : Int) < (k : Int) + (d : Int)) = false := by simp; omega
        cases q with
        | true =>
          have HY := Lib.hid (HSH.out.step hk HD.out hd1 ⟨hkb, of_decide_eq_true HQ.out.symm⟩)
          go_upto_region 6 with fail
          go_region
          go_wp2_with fail
          go_roundw
          case rel => exact ⟨k + d, by go_num, BI3, hlt2, hB3, HY.out⟩
          case measure => rw [BI3.pos, HPOS.out]; omega
        | false =>
          have HY : Hid (k = S) := Lib.hid ((HSH.out.stop hk HD.out hd1 (fun h => by
            have := HQ.out
            rw [decide_eq_true h.2] at this
            cases this)).symm.trans HS.out)
          have hy := HY.out
          subst hy
          clear HY
          go_upto_region 6 with fail
          go_region
          go_wp2_with fail
          go_ret
          exact ⟨rfl, hB3⟩
      · have HY : Hid (k = S) := Lib.hid ((HSH.out.stop hk HD.out hd1 (fun h => hkb h.1)).symm.trans HS.out)
        have hgt : decide ((b.size : Int) < (k : Int) + (d : Int)) = true := by simp; omega
        have hy := HY.out
        subst hy
        clear HY
        go_upto_region 6 with fail
        go_region
        go_wp2_with fail
        go_ret
        exact ⟨rfl, hB3⟩
    · have hnx : ∀ ty, (Instr.next (.pointer (some ⟨w.heap.size, 0, none⟩)) true ty).run Tryd.prog wr = .ok (.tuple #[.bool false]) wr := fun ty => Lib.run_next_end_at wr _ a k ty BI (by omega)
      have HY : Hid (k = S) := Lib.hid ((HSH.out.done (by omega)).symm.trans HS.out)
      have hy := HY.out
      subst hy
      clear HY
      go_wp2_with fail
      go_ret
      exact ⟨rfl, hB⟩
end Go.Proofs.YthbhbechemnidaaDoor
