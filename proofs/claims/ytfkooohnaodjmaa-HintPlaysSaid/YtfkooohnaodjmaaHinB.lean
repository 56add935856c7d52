/- Contract of slices.DeleteFunc over hints. -/
import Derived.Test.YtfkooohnaodjmaaHinA
namespace Go.Proofs.Ytfkooohnaodjmaa
open Go.RowKit Go.Sort

section
variable {α : Type}
/-- What the loop of DeleteFunc knows: the first i are what is kept of the first j, and from j on it is as it was. -/
def DelP (p : α → Bool) (l : List α) (i j : Nat) (L : List α) : Prop := L.length = l.length ∧ i < j ∧ L.take i = (l.take j).filter (fun x => !p x) ∧ L.drop j = l.drop j
theorem DelP.at_ {p : α → Bool} {l L : List α} {i j : Nat} (h : DelP p l i j L) (hj : j < l.length) : ∃ hL : j < L.length, L[j] = l[j] := by
  have hL : j < L.length := by rw [h.1]; exact hj
  refine ⟨hL, ?_⟩
  have h1 := congrArg (·[0]?) h.2.2.2
  simp only [List.getElem?_drop, Nat.add_zero] at h1
  rw [List.getElem?_eq_getElem hL, List.getElem?_eq_getElem hj] at h1
  injection h1
theorem DelP.skip {p : α → Bool} {l L : List α} {i j : Nat} (h : DelP p l i j L) (hj : j < l.length) (hp : p l[j] = true) : DelP p l i (j + 1) L := by
  obtain ⟨h1, h2, h3, h4⟩ := h
  refine ⟨h1, by omega, ?_, ?_⟩
  · rw [List.take_succ_eq_append_getElem hj, List.filter_append, h3]
    simp [hp]
  · rw [← List.drop_drop, h4, List.drop_drop]
theorem DelP.keep {p : α → Bool} {l L : List α} {i j : Nat} (h : DelP p l i j L) (hj : j < l.length) (hp : p l[j] = false) : DelP p l (i + 1) (j + 1) (L.set i l[j]) := by
  obtain ⟨h1, h2, h3, h4⟩ := h
  refine ⟨by rw [List.length_set]; exact h1, by omega, ?_, ?_⟩
  · rw [List.take_succ_eq_append_getElem hj, List.filter_append, ← h3]
    rw [List.take_succ_eq_append_getElem (by rw [List.length_set]; omega), List.take_set_of_le (Nat.le_refl _)]
    simp [hp]
  · rw [List.drop_set_of_lt (by omega), ← List.drop_drop, h4, List.drop_drop]
theorem DelP.start {p : α → Bool} {l : List α} {k : Nat} (hk : k < l.length) (hp : p l[k] = true) (h : ∀ x ∈ l.take k, p x = false) : DelP p l k (k + 1) l := by
  refine ⟨rfl, by omega, ?_, rfl⟩
  rw [List.take_succ_eq_append_getElem hk, List.filter_append]
  have : (l.take k).filter (fun x => !p x) = l.take k := List.filter_eq_self.2 fun x hx => by rw [h x hx]; rfl
  rw [this]
  simp [hp]
end
section
variable {w : World} {base e size g n cap : Nat} {xs : List Value}
theorem own_truncP (h : w.ownsRow base e size (.slice (some ⟨g, 0, none⟩) n cap) n xs) (k : Nat) (hk : k ≤ n) : w.ownsRow base e size (.slice (some ⟨g, 0, none⟩) k cap) k (xs.take (k * size)) := by
  have hks : k * size ≤ n * size := Nat.mul_le_mul_right _ hk
  obtain ⟨h1, h2⟩ := h
  refine ⟨by rw [List.length_take, h1]; omega, ?_⟩
  rcases h2 with ⟨hv, _⟩ | ⟨g', cap', cur, hv, hb, hh, hn, hc, hs, ht⟩
  · cases hv
  · injection hv with hv1 hv2 hv3
    injection hv1 with hv1
    injection hv1 with hv1
    subst hv1 hv3
    refine .inr ⟨g, cap, cur, rfl, hb, hh, by omega, hc, hs, ?_⟩
    rw [← ht, List.take_take, Nat.min_eq_left hks]
def setN : List Value → Nat → List Value → List Value
  | xs, _, [] => xs
  | xs, o, v :: vs => setN (xs.set o v) (o + 1) vs
theorem own_storeN : ∀ (vs : List Value) (o : Nat) (w : World) (xs : List Value), w.ownsRow base e size (.slice (some ⟨g, 0, none⟩) n cap) n xs →
    (w.setCells g o vs).ownsRow base e size (.slice (some ⟨g, 0, none⟩) n cap) n (setN xs o vs) ∧ w.grownBy (w.setCells g o vs) (some g)
  | [], o, w, xs, h => ⟨h, World.grownBy.refl _ _⟩
  | v :: vs, o, w, xs, h => by
    obtain ⟨h1, h2⟩ := World.ownsRow.stored h o v
    obtain ⟨h3, h5⟩ := own_storeN vs (o + 1) _ _ h1
    exact ⟨h3, h2.trans h5⟩
theorem own_setCellsP : ∀ (vs : List Value) (o : Nat) (w : World) (xs : List Value), w.ownsRow base e size (.slice (some ⟨g, 0, none⟩) n cap) n xs →
    ∃ xs', (w.setCells g o vs).ownsRow base e size (.slice (some ⟨g, 0, none⟩) n cap) n xs' ∧ (∀ k, k ≤ o → xs'.take k = xs.take k) ∧ w.grownBy (w.setCells g o vs) (some g)
  | [], o, w, xs, h => ⟨xs, h, fun _ _ => rfl, World.grownBy.refl _ _⟩
  | v :: vs, o, w, xs, h => by
    obtain ⟨h1, h2⟩ := World.ownsRow.stored h o v
    obtain ⟨xs', h3, h4, h5⟩ := own_setCellsP vs (o + 1) _ _ h1
    exact ⟨xs', h3, fun k hk => by rw [h4 k (by omega), List.take_set_of_le (by omega)], h2.trans h5⟩
end
/-- 'clear(s)', s a slice of elements of several cells. -/
theorem run_clear_k {P : Program} (w : World) (t e ty : TypeId) (z : Value) (ht : P.underlying t = some (.slice e)) (hv : ∀ w, (zeroValue e).run P w = .ok z w) (b o n c : Nat) (hn : 0 < n) (L : List Value) (hL : (Builtin.zeroCells z.cells n).toList = L)
    (h1 : ∀ v ∈ L, v.oneCell' = true) (hc : ∀ j, j < L.length → (w.cell? ⟨b, o + j, none⟩).isSome = true) (hf : ∀ j, j < L.length → w.frozen? ⟨b, o + j, none⟩ = false) :
    (Builtin.clear_ #[t] ty #[.slice (some ⟨b, o, none⟩) n c]).run P w = .ok (.tuple #[]) (w.setCells b o L) := by
  have hst := run_storeCells_cells (P := P) b o L 0 w (by simpa using hc) (by simpa using hf) h1
  simp only [Nat.add_zero] at hst
  obtain ⟨m, rfl⟩ : ∃ m, n = m + 1 := ⟨n - 1, by omega⟩
  simp [Builtin.clear_, run_underlying ht, hv, hL, hst]

theorem setN_app (a : List Value) : ∀ (vs : List Value) (o : Nat) (xs : List Value), setN (a ++ xs) (a.length + o) vs = a ++ setN xs o vs
  | [], o, xs => rfl
  | v :: vs, o, xs => by
    unfold setN
    rw [List.set_append_right _ _ (by omega), show a.length + o - a.length = o by omega, Nat.add_assoc]
    exact setN_app a vs (o + 1) _
theorem setN_all : ∀ (vs a xs : List Value), a.length = vs.length → setN (a ++ xs) 0 vs = vs ++ xs
  | [], a, xs, h => by rw [List.eq_nil_of_length_eq_zero h]; rfl
  | v :: vs, [], xs, h => by simp at h
  | v :: vs, y :: a, xs, h => by
    have ih := setN_all vs a xs (by simpa using h)
    show setN ((v :: (a ++ xs))) 1 vs = v :: (vs ++ xs)
    rw [← ih]
    exact setN_app [v] vs 0 (a ++ xs)
theorem setN_flat {α : Type} (f : α → List Value) (size : Nat) (hf : ∀ x, (f x).length = size) (h : α) : ∀ (L : List α) (i : Nat), i < L.length → setN (L.flatMap f) (i * size) (f h) = (L.set i h).flatMap f
  | x :: L, 0, _ => by
    rw [List.flatMap_cons, Nat.zero_mul, List.set_cons_zero, List.flatMap_cons]
    exact setN_all _ _ _ (by rw [hf, hf])
  | x :: L, i + 1, hi => by
    rw [List.flatMap_cons, List.set_cons_succ, List.flatMap_cons, ← setN_flat f size hf h L i (by simpa using hi), Nat.add_mul, Nat.one_mul, Nat.add_comm]
    have := setN_app (f x) (f h) (i * size) (L.flatMap f)
    rwa [hf] at this
theorem take_flat {α : Type} (f : α → List Value) (size : Nat) (hf : ∀ x, (f x).length = size) : ∀ (L : List α) (i : Nat), (L.flatMap f).take (i * size) = (L.take i).flatMap f
  | [], i => by simp
  | c :: L, 0 => by simp
  | c :: L, i + 1 => by
    rw [List.flatMap_cons, List.take_succ_cons, List.flatMap_cons, ← take_flat f size hf L i, Nat.add_mul, Nat.one_mul, Nat.add_comm, ← hf c, List.take_append]
    simp
    exact List.take_of_length_le (Nat.le_add_right _ _)
theorem set12 (w : World) (g o : Nat) (a0 a1 a2 a3 a4 a5 a6 a7 a8 a9 a10 a11 : Value) : w.setCells g o [a0, a1, a2, a3, a4, a5, a6, a7, a8, a9, a10, a11] = ((((((((((((w.setCell ⟨g, o, none⟩ a0).setCell ⟨g, o + 1, none⟩ a1).setCell ⟨g, o + 2, none⟩ a2).setCell ⟨g, o + 3, none⟩ a3).setCell ⟨g, o + 4, none⟩ a4).setCell ⟨g, o + 5, none⟩ a5).setCell ⟨g, o + 6, none⟩ a6).setCell ⟨g, o + 7, none⟩ a7).setCell ⟨g, o + 8, none⟩ a8).setCell ⟨g, o + 9, none⟩ a9).setCell ⟨g, o + 10, none⟩ a10).setCell ⟨g, o + 11, none⟩ a11) := rfl
theorem zero_hint (n : Nat) : ∃ L, (Builtin.zeroCells #[.int .i64 0, .int .i64 0, .int .i64 0, .int .i64 0, .string ⟨#[]⟩, .string ⟨#[]⟩, .string ⟨#[]⟩, .int .i64 0, .int .i64 0, .int .i64 0, .int .i64 0, .slice none 0 0] n).toList = L ∧ L.length = n * 12 ∧ ∀ v ∈ L, v.oneCell' = true := by
  refine ⟨_, rfl, by simp [Builtin.zeroCells], fun v hv => ?_⟩
  unfold Builtin.zeroCells at hv
  simp only [Array.toList_map, List.mem_map] at hv
  obtain ⟨i, -, rfl⟩ := hv
  have h2 : i % 12 < 12 := Nat.mod_lt _ (by decide)
  show ((#[.int .i64 0, .int .i64 0, .int .i64 0, .int .i64 0, .string ⟨#[]⟩, .string ⟨#[]⟩, .string ⟨#[]⟩, .int .i64 0, .int .i64 0, .int .i64 0, .int .i64 0, .slice none 0 0] : Array Value)[i % 12]!).oneCell' = true
  generalize i % 12 = j at h2
  match j, h2 with
  | 0, _ | 1, _ | 2, _ | 3, _ | 4, _ | 5, _ | 6, _ | 7, _ | 8, _ | 9, _ | 10, _ | 11, _ => rfl
/-- What DeleteFunc hands back. -/
def DelE (p : HintP → Bool) (v : Value) (L : List HintS) (base : Nat) (w : World) (e : Ending) (w' : World) : Prop :=
  ∃ v', e = .returned v' ∧ OwnH w' base v' (L.filter fun h => !p (hp h)) ∧ HangH w' v'.ownBlock (L.filter fun h => !p (hp h)) ∧ v'.ownBlock = v.ownBlock ∧ Stand (fun k => some k ≠ v.ownBlock) w w'

set_option maxRecDepth 100000 in
set_option maxHeartbeats 4000000 in
theorem hints_DeleteFunc (v : Value) (L : List HintS) (w : World) (base : Nat) (g : Nat) (lb : Array Value) (p : HintP → Bool) (eg : ∀ args w, (callFunc g args).run Try.prog w = .ok (.enter g args) w)
    (ho : OwnH w base v L) (hg : HangH w v.ownBlock L) (hz : ∀ h ∈ L, okH h) (hn : L.length ≤ 1000000) (hp : PredH g lb p (fun k => some k ≠ v.ownBlock) w) :
    Calls Try.prog 50 #[v, .func (.func g) #[] lb] w (DelE p v L base w) := by
  obtain ⟨A, c, rfl, hc, -, -⟩ := own_form ho
  have HC := Lib.hid (hints_IndexFunc A L.length c L w _ g lb p eg (Reads.of_own ho) hg.free hz (by omega) hp)
  have HO := Lib.hid ho
  have HG := Lib.hid hg
  have HZ := Lib.hid hz
  have HP := Lib.hid hp
  obtain ⟨n, hnl⟩ : ∃ n, L.length = n := ⟨_, rfl⟩
  rw [hnl] at HC HP HG ⊢
  rw [hnl] at hc hn
  have HN := Lib.hid hnl
  clear ho hp hnl hg hz
  go_enter Try.func50, Try.ntmps50
  go_wp2_with fail
  refine HC.out.mono ?_
  clear HC
  rintro e w1 ⟨r, rfl, hr, hb⟩
  rcases hr with ⟨rfl, hall⟩ | ⟨k, rfl, hk, ⟨x, hx, hpx⟩, hbef⟩
  · have HA := Lib.hid hall
    clear hall
    go_wp2_with fail
    go_ret
    have e1 : L.filter (fun h => !p (Go.Proofs.Ytfkooohnaodjmaa.hp h)) = L := List.filter_eq_self.2 fun x hx => by rw [HA.out x hx]; rfl
    refine ⟨_, rfl, ?_, ?_, rfl, Stand.of_below hb⟩
    · rw [e1]
      have h2 := own_below HO.out hb
      rw [HN.out] at h2
      show w1.ownsRow base 45 12 (.slice A n c) L.length _
      rw [HN.out]
      exact h2
    · rw [e1]
      exact HG.out.below hb
  have hst : DelP (fun h => p (Go.Proofs.Ytfkooohnaodjmaa.hp h)) L k (k + 1) L := by
    rw [List.getElem?_eq_getElem hk] at hx
    injection hx with hx
    exact .start hk (by rw [hx]; exact hpx) hbef
  have hkn : k < n := by have := HN.out; omega
  have o1 := own_below HO.out hb
  rw [HN.out] at o1
  obtain ⟨b, hA⟩ : ∃ b, A = some ⟨b, 0, none⟩ := by
    obtain ⟨A', c', e5, _, _, h5⟩ := own_form o1
    obtain ⟨g5, h6, _⟩ := h5 (by omega)
    injection e5 with e51
    exact ⟨g5, e51.trans h6⟩
  subst hA
  have HST := Lib.hid hst
  have HO1 := Lib.hid o1
  have HG1 : Hid (HangH w1 (some b) L) := Lib.hid (HG.out.below hb)
  have hne : ((k : Int) == -1) = false := beq_eq_false_iff_ne.2 (by omega)
  have HS1 : Hid (Stand (fun k => some k ≠ some b) w w1) := Lib.hid (Stand.of_below hb)
  have HPP : Hid (PredH g lb p (fun k => some k ≠ some b) w) := HP
  clear hst o1 hx hpx hbef HO hk HG HP hb
  go_wp2_with fail
  clear hne
  go_loopw [5, 6, 7] (fun v5 v6 _ wr => ∃ (i j : Nat) (L' : List HintS), v5 = .int .i64 i ∧ v6 = .int .i64 j ∧ j ≤ n ∧ i ≤ n ∧ DelP (fun h => p (Go.Proofs.Ytfkooohnaodjmaa.hp h)) L i j L' ∧ (∀ x ∈ L', x ∈ L) ∧ wr.ownsRow base 45 12 (.slice (some ⟨b, 0, none⟩) n c) n (L'.flatMap hintL) ∧ HangH wr (some b) L' ∧ Stand (fun k => some k ≠ some b) w wr) (fun _ v6 _ _ => n - (intOf v6).toNat)
  case atStart => exact ⟨k, k + 1, L, rfl, by go_num, by omega, by omega, HST.out, fun _ h => h, HO1.out, HG1.out, HS1.out⟩
  case round =>
    obtain ⟨i, j, L', rfl, rfl, hj, hi, hD, hsub, hO, hG, hSw⟩ := hrel
    have HD := Lib.hid hD
    have HO := Lib.hid hO
    have HGr := Lib.hid hG
    have HSw := Lib.hid hSw
    have HSUB := Lib.hid hsub
    have hLl : L'.length = n := by have := hD.1; have := HN.out; omega
    have HL := Lib.hid hLl
    have hij := hD.2.1
    have hbb : base ≤ b ∧ b < wr.heap.size := World.ownsRow.lt hO b rfl
    clear hD hO hLl hG hSw hsub
    by_cases hlt : j < n
    · have hjl : j < L.length := by have := HN.out; omega
      obtain ⟨hjL, hje⟩ := HD.out.at_ hjl
      have hcl : ∀ i u, i < 12 → (hintL L'[j])[i]? = some u → wr.cell? ⟨b, j * 12 + i, none⟩ = some u := fun i u hi hu => by
        rw [World.ownsRow.cellAt HO.out (j * 12 + i) (by omega)]
        exact (flat_get hintL 12 hintL_len L' j i hjL hi).trans hu
      have hrow := HGr.out.at_ hjL
      have hok := HZ.out _ (HSUB.out _ (List.getElem_mem hjL))
      have hmem : L'[j] ∈ L' := List.getElem_mem hjL
      have hfar := (HGr.out _ hmem).2
      have hsk := HD.out.skip hjl
      have hkp := HD.out.keep hjl
      rw [← hje] at hsk hkp
      obtain ⟨y, hy⟩ : ∃ y, L'[j]'hjL = y := ⟨_, rfl⟩
      rw [hy] at hcl hrow hok hmem hfar hsk hkp

      have q0 : wr.cell? ⟨b, j * 12, none⟩ = some (.int .i64 y.to) := hcl 0 _ (by decide) rfl
      have q1 : wr.cell? ⟨b, j * 12 + 1, none⟩ = some (.int .i64 y.until_) := hcl 1 _ (by decide) rfl
      have q2 : wr.cell? ⟨b, j * 12 + 2, none⟩ = some (.int .i64 y.e.m.tab) := hcl 2 _ (by decide) rfl
      have q3 : wr.cell? ⟨b, j * 12 + 3, none⟩ = some (.int .i64 y.e.m.kind) := hcl 3 _ (by decide) rfl
      have q4 : wr.cell? ⟨b, j * 12 + 4, none⟩ = some (.string y.e.m.key) := hcl 4 _ (by decide) rfl
      have q5 : wr.cell? ⟨b, j * 12 + 5, none⟩ = some (.string y.e.m.en) := hcl 5 _ (by decide) rfl
      have q6 : wr.cell? ⟨b, j * 12 + 6, none⟩ = some (.string y.e.m.val) := hcl 6 _ (by decide) rfl
      have q7 : wr.cell? ⟨b, j * 12 + 7, none⟩ = some (.int .i64 y.e.m.exp) := hcl 7 _ (by decide) rfl
      have q8 : wr.cell? ⟨b, j * 12 + 8, none⟩ = some (.int .i64 y.e.m.at_.1) := hcl 8 _ (by decide) rfl
      have q9 : wr.cell? ⟨b, j * 12 + 9, none⟩ = some (.int .i64 y.e.m.at_.2.1) := hcl 9 _ (by decide) rfl
      have q10 : wr.cell? ⟨b, j * 12 + 10, none⟩ = some (.int .i64 y.e.m.at_.2.2) := hcl 10 _ (by decide) rfl
      have q11 : wr.cell? ⟨b, j * 12 + 11, none⟩ = some (.slice y.e.A y.e.n y.e.c) := hcl 11 _ (by decide) rfl
      have hcall := HPP.out (wr.alloc (.cells #[.int .i64 y.to, .int .i64 y.until_, .int .i64 y.e.m.tab, .int .i64 y.e.m.kind, .string y.e.m.key, .string y.e.m.en, .string y.e.m.val, .int .i64 y.e.m.exp, .int .i64 y.e.m.at_.1, .int .i64 y.e.m.at_.2.1, .int .i64 y.e.m.at_.2.2, .slice y.e.A y.e.n y.e.c] 45)) y (HSw.out.alloc _) ((hrow.alloc (Nat.le_refl _) _).more (by simp)) hok
      have HSK := Lib.hid hsk
      have HKP := Lib.hid hkp
      have HMEM := Lib.hid hmem
      have HROW := Lib.hid (And.intro hrow hfar)
      clear hje hsk hkp hcl hrow hok hmem hy hfar
      unfold hintC at hcall
      have aO := Lib.hid (own_below HO.out ((Below.refl wr.heap.size wr).alloc (Nat.le_refl _) (.cells #[.int .i64 y.to, .int .i64 y.until_, .int .i64 y.e.m.tab, .int .i64 y.e.m.kind, .string y.e.m.key, .string y.e.m.en, .string y.e.m.val, .int .i64 y.e.m.exp, .int .i64 y.e.m.at_.1, .int .i64 y.e.m.at_.2.1, .int .i64 y.e.m.at_.2.2, .slice y.e.A y.e.n y.e.c] 45)))
      have aB := Blk.new wr 45 #[.int .i64 y.to, .int .i64 y.until_, .int .i64 y.e.m.tab, .int .i64 y.e.m.kind, .string y.e.m.key, .string y.e.m.en, .string y.e.m.val, .int .i64 y.e.m.exp, .int .i64 y.e.m.at_.1, .int .i64 y.e.m.at_.2.1, .int .i64 y.e.m.at_.2.2, .slice y.e.A y.e.n y.e.c]
      cases hq : p (Go.Proofs.Ytfkooohnaodjmaa.hp y) with
      | true =>
        rw [hq] at hcall
        have HQ := Lib.hid hq
        have HC := Lib.hid hcall
        clear hq hcall
        go_wp2_with fail
        refine HC.out.mono ?_
        rintro e w' ⟨rfl, hb'⟩
        go_wp2_with fail
        go_roundw
        case rel => exact ⟨i, j + 1, L', rfl, by go_num, by omega, hi, HSK.out HQ.out, HSUB.out, own_below aO.out hb', (HGr.out.below ((Below.refl wr.heap.size wr).alloc (Nat.le_refl _) _)).below hb', (HSw.out.alloc _).trans (Stand.of_below hb')⟩
        case measure => simp [intOf]; omega
      | false =>
        rw [hq] at hcall
        have HQ := Lib.hid hq
        have HC := Lib.hid hcall
        clear hq hcall
        go_wp2_with fail
        refine HC.out.mono ?_
        rintro e w' ⟨rfl, hb'⟩
        have hO' := own_below aO.out hb'
        have aB' := aB.below hb' aB.lt
        have p0 := aB'.cell 0
        have p1 := aB'.cell 1
        have p2 := aB'.cell 2
        have p3 := aB'.cell 3
        have p4 := aB'.cell 4
        have p5 := aB'.cell 5
        have p6 := aB'.cell 6
        have p7 := aB'.cell 7
        have p8 := aB'.cell 8
        have p9 := aB'.cell 9
        have p10 := aB'.cell 10
        have p11 := aB'.cell 11
        have hiL : i < L'.length := by have := HL.out; omega
        have hcx : ∀ r, r < 12 → ∃ u, w'.cell? ⟨b, i * 12 + r, none⟩ = some u := fun r hr => by
          rw [World.ownsRow.cellAt hO' (i * 12 + r) (by omega)]
          rw [flat_get hintL 12 hintL_len L' i r hiL hr]
          exact ⟨_, List.getElem?_eq_getElem (by rw [hintL_len]; exact hr)⟩
        obtain ⟨u0, ci0⟩ := hcx 0 (by decide)
        have fi0 := World.ownsRow.frozenAt hO' (i * 12)
        obtain ⟨u1, ci1⟩ := hcx 1 (by decide)
        have fi1 := World.ownsRow.frozenAt hO' (i * 12 + 1)
        obtain ⟨u2, ci2⟩ := hcx 2 (by decide)
        have fi2 := World.ownsRow.frozenAt hO' (i * 12 + 2)
        obtain ⟨u3, ci3⟩ := hcx 3 (by decide)
        have fi3 := World.ownsRow.frozenAt hO' (i * 12 + 3)
        obtain ⟨u4, ci4⟩ := hcx 4 (by decide)
        have fi4 := World.ownsRow.frozenAt hO' (i * 12 + 4)
        obtain ⟨u5, ci5⟩ := hcx 5 (by decide)
        have fi5 := World.ownsRow.frozenAt hO' (i * 12 + 5)
        obtain ⟨u6, ci6⟩ := hcx 6 (by decide)
        have fi6 := World.ownsRow.frozenAt hO' (i * 12 + 6)
        obtain ⟨u7, ci7⟩ := hcx 7 (by decide)
        have fi7 := World.ownsRow.frozenAt hO' (i * 12 + 7)
        obtain ⟨u8, ci8⟩ := hcx 8 (by decide)
        have fi8 := World.ownsRow.frozenAt hO' (i * 12 + 8)
        obtain ⟨u9, ci9⟩ := hcx 9 (by decide)
        have fi9 := World.ownsRow.frozenAt hO' (i * 12 + 9)
        obtain ⟨u10, ci10⟩ := hcx 10 (by decide)
        have fi10 := World.ownsRow.frozenAt hO' (i * 12 + 10)
        obtain ⟨u11, ci11⟩ := hcx 11 (by decide)
        have fi11 := World.ownsRow.frozenAt hO' (i * 12 + 11)
        rw [Nat.add_zero] at ci0
        have st := own_storeN [.int .i64 y.to, .int .i64 y.until_, .int .i64 y.e.m.tab, .int .i64 y.e.m.kind, .string y.e.m.key, .string y.e.m.en, .string y.e.m.val, .int .i64 y.e.m.exp, .int .i64 y.e.m.at_.1, .int .i64 y.e.m.at_.2.1, .int .i64 y.e.m.at_.2.2, .slice y.e.A y.e.n y.e.c] (i * 12) w' _ hO'
        rw [show [.int .i64 y.to, .int .i64 y.until_, .int .i64 y.e.m.tab, .int .i64 y.e.m.kind, .string y.e.m.key, .string y.e.m.en, .string y.e.m.val, .int .i64 y.e.m.exp, .int .i64 y.e.m.at_.1, .int .i64 y.e.m.at_.2.1, .int .i64 y.e.m.at_.2.2, .slice y.e.A y.e.n y.e.c] = hintL y from rfl, setN_flat hintL 12 hintL_len y L' i hiL, show hintL y = [.int .i64 y.to, .int .i64 y.until_, .int .i64 y.e.m.tab, .int .i64 y.e.m.kind, .string y.e.m.key, .string y.e.m.en, .string y.e.m.val, .int .i64 y.e.m.exp, .int .i64 y.e.m.at_.1, .int .i64 y.e.m.at_.2.1, .int .i64 y.e.m.at_.2.2, .slice y.e.A y.e.n y.e.c] from rfl, set12] at st
        have HSET := Lib.hid st
        have hG' := (HGr.out.below ((Below.refl wr.heap.size wr).alloc (Nat.le_refl _) (.cells #[.int .i64 y.to, .int .i64 y.until_, .int .i64 y.e.m.tab, .int .i64 y.e.m.kind, .string y.e.m.key, .string y.e.m.en, .string y.e.m.val, .int .i64 y.e.m.exp, .int .i64 y.e.m.at_.1, .int .i64 y.e.m.at_.2.1, .int .i64 y.e.m.at_.2.2, .slice y.e.A y.e.n y.e.c] 45))).below hb'
        have HG' := Lib.hid hG'
        have HSs := Lib.hid ((HSw.out.alloc (.cells #[.int .i64 y.to, .int .i64 y.until_, .int .i64 y.e.m.tab, .int .i64 y.e.m.kind, .string y.e.m.key, .string y.e.m.en, .string y.e.m.val, .int .i64 y.e.m.exp, .int .i64 y.e.m.at_.1, .int .i64 y.e.m.at_.2.1, .int .i64 y.e.m.at_.2.2, .slice y.e.A y.e.n y.e.c] 45)).trans (Stand.of_below hb'))
        clear q0 q1 q2 q3 q4 q5 q6 q7 q8 q9 q10 q11 hO' st aB hcx hG'
        go_wp2_with fail
        go_roundw
        case rel =>
          refine ⟨i + 1, j + 1, L'.set i y, by go_num, by go_num, by omega, by omega, HKP.out HQ.out, ?_, HSET.out.1, ?_, HSs.out.trans (Stand.of_grown HSET.out.2 (fun k hk h2 => h2 hk.symm))⟩
          · intro x hx
            rcases List.mem_or_eq_of_mem_set hx with h | h
            · exact HSUB.out x h
            · rw [h]; exact HSUB.out y HMEM.out
          · refine Hangs.grown (w := w') (fun x hx => ?_) HSET.out.2
            rcases List.mem_or_eq_of_mem_set hx with h | h
            · exact HG'.out x h
            · rw [h]; exact HG'.out y HMEM.out
        case measure => simp [intOf]; omega
    · have hje : j = n := by omega
      subst hje
      have hfil : L'.take i = L.filter (fun h => !p (Go.Proofs.Ytfkooohnaodjmaa.hp h)) := by
        have := HD.out.2.2.1
        rwa [List.take_of_length_le (l := L) (by have := HN.out; omega)] at this
      have hlen : (L.filter fun h => !p (Go.Proofs.Ytfkooohnaodjmaa.hp h)).length = i := by
        rw [← hfil, List.length_take, HL.out]
        omega
      obtain ⟨Z, hZ, hZl, hZ1⟩ := zero_hint (j - i)
      obtain ⟨xs', h3, h4, h5⟩ := own_setCellsP Z (i * 12) wr _ HO.out
      have tr := own_truncP h3 i hi
      rw [h4 (i * 12) (Nat.le_refl _), take_flat hintL 12 hintL_len, hfil] at tr
      have hcl : ∀ ty, (Builtin.clear_ #[24] ty #[.slice (some ⟨b, i * 12, none⟩) (j - i) (c - i)]).run Try.prog wr = .ok (.tuple #[]) (wr.setCells b (i * 12) Z) := fun ty =>
        run_clear_k wr _ 45 ty (.agg #[.int .i64 0, .int .i64 0, .int .i64 0, .int .i64 0, .string ⟨#[]⟩, .string ⟨#[]⟩, .string ⟨#[]⟩, .int .i64 0, .int .i64 0, .int .i64 0, .int .i64 0, .slice none 0 0]) Try.underlying24 (fun _ => by kernel_rfl) b (i * 12) _ _ (by omega) Z hZ hZ1 (fun t ht => by
          rw [World.ownsRow.cellAt HO.out (i * 12 + t) (by omega)]
          have h9 : i * 12 + t < (L'.flatMap hintL).length := by rw [flat_len hintL 12 hintL_len, HL.out]; omega
          rw [List.getElem?_eq_getElem h9]
          rfl) (fun t _ => World.ownsRow.frozenAt HO.out (i * 12 + t))
      have HTR := Lib.hid tr
      have HGW := Lib.hid h5
      have HLE := Lib.hid hlen
      have HFI := Lib.hid hfil
      have hic : i ≤ c := by omega
      clear tr h3 h4 h5 hlen hfil hZ hZ1
      go_wp2_with fail
      go_ret
      refine ⟨_, rfl, ?_, ?_, rfl, HSw.out.trans (Stand.of_grown HGW.out (fun k hk h2 => h2 hk.symm))⟩
      · unfold OwnH
        rw [HLE.out]
        exact HTR.out
      · refine Hangs.grown (Hangs.sub HGr.out ?_) HGW.out
        rw [← HFI.out]
        exact fun e he => List.mem_of_mem_take he
end Go.Proofs.Ytfkooohnaodjmaa
