/- Contracts of slices.Clone and slices.DeleteFunc over numbers. -/
import Derived.Test.YtfebncpfhdgkpaaFuncsA
import Derived.Lib.SliceRun
namespace Go.Proofs.Ytfebncpfhdgkpaa
open Go.RowKit Go.Sort

def FreshI (w : World) (l : List Int) (e : Ending) (w' : World) : Prop := ∃ v', e = .returned v' ∧ OwnI w' w.heap.size v' l ∧ Below w.heap.size w w'

set_option maxRecDepth 100000 in
set_option maxHeartbeats 1000000 in
theorem ints_Clone (A : Option Addr) (n c : Nat) (l : List Int) (w : World) (hr : Reads w w.heap.size 1 A n (l.map vi)) (hA : A = none → c = 0) (hlen : n ≤ 1000000000) :
    Calls Try.prog 69 #[.slice A n c] w (FreshI w l) := by
  have hn := hr.leni
  rcases A with _ | ad
  · have hc := hA rfl
    subst hc
    have h0 : n = 0 := by
      rcases Nat.eq_zero_or_pos n with h | h
      · exact h
      · obtain ⟨ad, h1, _⟩ := hr.2 h
        cases h1
    subst h0
    have hl := List.eq_nil_of_length_eq_zero hn
    subst hl
    clear hr hA hn
    have F : Hid (FreshI w [] (.returned (.slice none 0 0)) w) := Lib.hid ⟨_, rfl, OwnI.nil_ _ _, Below.refl _ _⟩
    have hq := fun (w : World) (a : Option Addr) (n c n' c' : Nat) => Lib.run_eql_slice_nil (P := Try.prog) w 27 3 a n c n' c' Try.underlying27
    go_enter Try.func69, Try.ntmps69
    go_wp2
    go_ret
    exact F.out
  · clear hA
    have HR := Lib.hid hr
    clear hr
    have hq := fun (w : World) (a : Option Addr) (n c n' c' : Nat) => Lib.run_eql_slice_nil (P := Try.prog) w 27 3 a n c n' c' Try.underlying27
    obtain ⟨i0, hi, hz0, hz1, hz2⟩ := info_parts info_int
    have HI := Lib.hid (And.intro hi (And.intro hz0 (And.intro hz1 hz2)))
    have HN := Lib.hid hn
    clear hi hz0 hz1 hz2 hn
    go_enter Try.func69, Try.ntmps69
    go_wp2_with (at_builtin; go_must (refine wpList_append_any _ rfl _ _ 27 rfl w.heap.size 3 i0 (.int .i64 0) 1 8 Try.underlying27 HI.out.1 HI.out.2.1 HI.out.2.2.1 HI.out.2.2.2 rfl (by decide) (.slice (some ⟨w.heap.size, 0, none⟩) 0 0) 0 [] rfl (World.ownsRow_made w #[] 0 (Nat.le_refl _) (by decide) (by decide)) w.heap.size (some ad) n c (l.map vi) rfl (HR.out.alloc (Nat.le_refl _) _) (vi_one _) (by unfold maxLen; omega) (by omega) (by simp) ?_); intro v' w1 hown hg hlies)
    go_ret
    refine ⟨v', rfl, ?_, ?_⟩
    · unfold OwnI
      rw [Nat.zero_add, List.nil_append] at hown
      rw [HN.out]
      exact hown
    · refine Below.grown ((Below.refl _ _).alloc (Nat.le_refl _) _) hg (by simp) ?_
      intro k hk
      have h5 : w.heap.size = k := by simpa [Value.ownBlock] using hk
      omega

section
variable {w : World} {base e size g n cap : Nat} {xs : List Value}
theorem own_trunc (h : w.ownsRow base e size (.slice (some ⟨g, 0, none⟩) n cap) n xs) (k : Nat) (hk : k ≤ n) : w.ownsRow base e size (.slice (some ⟨g, 0, none⟩) k cap) k (xs.take (k * size)) := by
  have hks : k * size ≤ n * size := Nat.mul_le_mul_right _ hk
  obtain ⟨h1, h2⟩ := h
  refine ⟨by rw [List.length_take, h1]; omega, ?_⟩
  rcases h2 with ⟨hv, _⟩ | ⟨g', cap', cur, hv, hb, hh, hn, hc, hs, ht⟩
  · cases hv
  · injection hv with hv1 hv2 hv3
    injection hv1 with hv1
    injection hv1 with hv1
    subst hv1 hv3
    refine .inr ⟨g, cap, cur, rfl, hb, hh, by omega, hc, hs, ?_⟩
    rw [← ht, List.take_take, Nat.min_eq_left hks]
theorem own_setCells : ∀ (vs : List Value) (o : Nat) (w : World) (xs : List Value), w.ownsRow base e size (.slice (some ⟨g, 0, none⟩) n cap) n xs →
    ∃ xs', (w.setCells g o vs).ownsRow base e size (.slice (some ⟨g, 0, none⟩) n cap) n xs' ∧ (∀ k, k ≤ o → xs'.take k = xs.take k) ∧ w.grownBy (w.setCells g o vs) (some g)
  | [], o, w, xs, h => ⟨xs, h, fun _ _ => rfl, World.grownBy.refl _ _⟩
  | v :: vs, o, w, xs, h => by
    obtain ⟨h1, h2⟩ := World.ownsRow.stored h o v
    obtain ⟨xs', h3, h4, h5⟩ := own_setCells vs (o + 1) _ _ h1
    exact ⟨xs', h3, fun k hk => by rw [h4 k (by omega), List.take_set_of_le (by omega)], h2.trans h5⟩
end

/-- What the loop of DeleteFunc knows: the first i are what is kept of the first j, and from j on it is as it was. -/
def DelI (p : Int → Bool) (l : List Int) (i j : Nat) (L : List Int) : Prop := L.length = l.length ∧ i < j ∧ L.take i = (l.take j).filter (fun x => !p x) ∧ L.drop j = l.drop j
theorem DelI.at_ {p : Int → Bool} {l L : List Int} {i j : Nat} (h : DelI p l i j L) (hj : j < l.length) : ∃ hL : j < L.length, L[j] = l[j] := by
  have hL : j < L.length := by rw [h.1]; exact hj
  refine ⟨hL, ?_⟩
  have h1 := congrArg (·[0]?) h.2.2.2
  simp only [List.getElem?_drop, Nat.add_zero] at h1
  rw [List.getElem?_eq_getElem hL, List.getElem?_eq_getElem hj] at h1
  injection h1
theorem DelI.skip {p : Int → Bool} {l L : List Int} {i j : Nat} (h : DelI p l i j L) (hj : j < l.length) (hp : p l[j] = true) : DelI p l i (j + 1) L := by
  obtain ⟨h1, h2, h3, h4⟩ := h
  refine ⟨h1, by omega, ?_, ?_⟩
  · rw [List.take_succ_eq_append_getElem hj, List.filter_append, h3]
    simp [hp]
  · rw [← List.drop_drop, h4, List.drop_drop]
theorem DelI.keep {p : Int → Bool} {l L : List Int} {i j : Nat} (h : DelI p l i j L) (hj : j < l.length) (hp : p l[j] = false) : DelI p l (i + 1) (j + 1) (L.set i l[j]) := by
  obtain ⟨h1, h2, h3, h4⟩ := h
  refine ⟨by rw [List.length_set]; exact h1, by omega, ?_, ?_⟩
  · rw [List.take_succ_eq_append_getElem hj, List.filter_append, ← h3]
    rw [List.take_succ_eq_append_getElem (by rw [List.length_set]; omega), List.take_set_of_le (Nat.le_refl _)]
    simp [hp]
  · rw [List.drop_set_of_lt (by omega), ← List.drop_drop, h4, List.drop_drop]
theorem DelI.start {p : Int → Bool} {l : List Int} {k : Nat} (hk : k < l.length) (hp : p l[k] = true) (h : ∀ x ∈ l.take k, p x = false) : DelI p l k (k + 1) l := by
  refine ⟨rfl, by omega, ?_, rfl⟩
  rw [List.take_succ_eq_append_getElem hk, List.filter_append]
  have : (l.take k).filter (fun x => !p x) = l.take k := List.filter_eq_self.2 fun x hx => by rw [h x hx]; rfl
  rw [this]
  simp [hp]

/-- What DeleteFunc hands back. -/
def DelE (p : Int → Bool) (l : List Int) (B base : Nat) (w : World) (e : Ending) (w' : World) : Prop := ∃ v', e = .returned v' ∧ OwnI w' base v' (l.filter fun x => !p x) ∧ Below B w w'

set_option maxRecDepth 100000 in
set_option maxHeartbeats 2000000 in
theorem ints_DeleteFunc (v : Value) (l : List Int) (w : World) (B base : Nat) (g : Nat) (pre lb : Array Value) (p : Int → Bool) (eg : ∀ args w, (callFunc g args).run Try.prog w = .ok (.enter g args) w)
    (ho : OwnI w base v l) (hBb : B ≤ base) (hB : B ≤ w.heap.size) (hn : l.length ≤ 1000000000) (hp : PredB g pre lb p B w) :
    Calls Try.prog 68 #[v, .func (.func g) pre lb] w (DelE p l B base w) := by
  obtain ⟨A, c, rfl, hc, _, hr⟩ := ho.reads
  have hpw : PredB g pre lb p w.heap.size w := fun W x hb => hp W x (hb.mono hB)
  have HC := Lib.hid (ints_IndexFunc A l.length c l w w.heap.size g pre lb p eg hr (Nat.le_refl _) (by omega) hpw)
  have HO := Lib.hid ho
  have HP := Lib.hid hp
  obtain ⟨n, hnl⟩ : ∃ n, l.length = n := ⟨_, rfl⟩
  rw [hnl] at HC ⊢
  rw [hnl] at hc hn
  have HN := Lib.hid hnl
  clear ho hr hp hpw hnl
  go_enter Try.func68, Try.ntmps68
  go_wp2_with fail
  refine HC.out.mono ?_
  clear HC
  rintro e w1 ⟨r, rfl, hr, hb⟩
  rcases hr with ⟨rfl, hall⟩ | ⟨k, rfl, hk, ⟨x, hx, hpx⟩, hbef⟩
  · have HA := Lib.hid hall
    clear hall
    go_wp2_with fail
    go_ret
    refine ⟨_, rfl, ?_, hb.mono hB⟩
    have e1 : l.filter (fun x => !p x) = l := List.filter_eq_self.2 fun x hx => by rw [HA.out x hx]; rfl
    rw [e1]
    have := HO.out.below hb
    rwa [HN.out] at this
  have hst : DelI p l k (k + 1) l := by
    rw [List.getElem?_eq_getElem hk] at hx
    injection hx with hx
    exact .start hk (by rw [hx]; exact hpx) hbef
  have hkn : k < n := by have := HN.out; omega
  have o1 := HO.out.below hb
  rw [HN.out] at o1
  obtain ⟨b, hA⟩ : ∃ b, A = some ⟨b, 0, none⟩ := by
    obtain ⟨A', c', e5, _, _, h5⟩ := own_form o1
    obtain ⟨g5, h6, _⟩ := h5 (by omega)
    injection e5 with e51
    exact ⟨g5, e51.trans h6⟩
  subst hA
  have HST := Lib.hid hst
  have HO1 := Lib.hid o1
  have hne : ((k : Int) == -1) = false := beq_eq_false_iff_ne.2 (by omega)
  have hbB := hb.mono hB
  clear hst o1 hx hpx hbef HO hk
  go_wp2_with fail
  clear hne
  go_loopw [5, 6, 7] (fun v5 v6 _ wr => ∃ (i j : Nat) (L : List Int), v5 = .int .i64 i ∧ v6 = .int .i64 j ∧ j ≤ n ∧ i ≤ n ∧ DelI p l i j L ∧ OwnI wr base (.slice (some ⟨b, 0, none⟩) n c) L ∧ Below B w wr) (fun _ v6 _ _ => n - (intOf v6).toNat)
  case atStart => exact ⟨k, k + 1, l, rfl, by go_num, by omega, by omega, HST.out, HO1.out, hbB⟩
  case round =>
    obtain ⟨i, j, L, rfl, rfl, hj, hi, hD, hO, hBw⟩ := hrel
    have HD := Lib.hid hD
    have HO := Lib.hid hO
    have hLl : L.length = n := by have := hD.1; have := HN.out; omega
    have HL := Lib.hid hLl
    have hij := hD.2.1
    have hbb : base ≤ b := ((hO.lt b rfl)).1
    unfold OwnI at hO
    rw [hLl] at hO
    have HOr := Lib.hid hO
    clear hD hO hLl
    by_cases hlt : j < n
    · have hjl : j < l.length := by have := HN.out; omega
      obtain ⟨hjL, hje⟩ := HD.out.at_ hjl
      have q0 := World.ownsRow.cellAt HOr.out j (by omega)
      rw [List.getElem?_map, List.getElem?_eq_getElem hjL, hje] at q0
      simp only [Option.map_some, vi] at q0
      have hcall := HP.out wr l[j] hBw
      have hsk := HD.out.skip hjl
      have hkp := HD.out.keep hjl
      have hset := World.ownsRow.stored HOr.out i (vi l[j])
      rw [← List.map_set] at hset
      unfold vi at hset
      generalize l[j] = y at *
      have HSK := Lib.hid hsk
      have HKP := Lib.hid hkp
      clear hje hsk hkp hset
      cases hq : p y with
      | true =>
        rw [hq] at hcall
        have HQ := Lib.hid hq
        have HC := Lib.hid hcall
        clear hq hcall
        go_wp2_with fail
        refine HC.out.mono ?_
        rintro e w' ⟨rfl, hb'⟩
        go_wp2_with fail
        go_roundw
        case rel => exact ⟨i, j + 1, L, rfl, by go_num, by omega, hi, HSK.out HQ.out, HO.out.below hb', hBw.trans (hb'.mono (Nat.le_trans hB hBw.size))⟩
        case measure => simp [intOf]; omega
      | false =>
        rw [hq] at hcall
        have HQ := Lib.hid hq
        have HC := Lib.hid hcall
        clear hq hcall
        go_wp2_with fail
        refine HC.out.mono ?_
        rintro e w' ⟨rfl, hb'⟩
        have hO' := own_below HOr.out hb'
        have hset := World.ownsRow.stored hO' i (.int .i64 y)
        have ci := World.ownsRow.cellAt hO' i (by omega)
        rw [List.getElem?_map, List.getElem?_eq_getElem (by have := HL.out; omega)] at ci
        simp only [Option.map_some, vi] at ci
        have fi := World.ownsRow.frozenAt hO' i
        have HSET := Lib.hid hset
        clear q0 hO' hset
        go_wp2_with fail
        go_roundw
        case rel =>
          refine ⟨i + 1, j + 1, L.set i y, by go_num, by go_num, by omega, by omega, HKP.out HQ.out, ?_, ?_⟩
          · unfold OwnI
            rw [List.length_set, HL.out, List.map_set]
            exact HSET.out.1
          · exact Below.grown (hBw.trans (hb'.mono (Nat.le_trans hB hBw.size))) HSET.out.2 (Nat.le_trans (Nat.le_trans hB hBw.size) hb'.size) (fun q hq => by injection hq with hq; omega)
        case measure => simp [intOf]; omega
    · have hje : j = n := by omega
      subst hje
      have hfil : L.take i = l.filter (fun x => !p x) := by
        have := HD.out.2.2.1
        rwa [List.take_of_length_le (l := l) (by have := HN.out; omega)] at this
      have hlen : (l.filter fun x => !p x).length = i := by
        rw [← hfil, List.length_take, HL.out]
        omega
      have tr := own_trunc HOr.out i hi
      obtain ⟨xs', h3, h4, h5⟩ := own_setCells (List.replicate (j - i) (Value.int .i64 0)) i wr _ HOr.out
      have tr := own_trunc h3 i hi
      rw [Nat.mul_one, h4 i (Nat.le_refl _), ← List.map_take, hfil] at tr
      have hcl : ∀ ty, (Builtin.clear_ #[27] ty #[.slice (some ⟨b, i, none⟩) (j - i) (c - i)]).run Try.prog wr = .ok (.tuple #[]) (wr.setCells b i (List.replicate (j - i) (.int .i64 0))) := fun ty =>
        Lib.run_clear_slice wr _ 3 ty (.int .i64 0) Try.underlying27 (fun _ => by kernel_rfl) rfl rfl b i _ _ (by omega) (fun t ht => by
          rw [World.ownsRow.cellAt HOr.out (i + t) (by omega), List.getElem?_map, List.getElem?_eq_getElem (by have := HL.out; omega)]
          rfl) (fun t _ => World.ownsRow.frozenAt HOr.out (i + t))
      have HTR := Lib.hid tr
      have HG := Lib.hid h5
      have HLE := Lib.hid hlen
      have hic : i ≤ c := by omega
      clear tr h3 h4 h5 hlen hfil
      go_wp2_with fail
      go_ret
      refine ⟨_, rfl, ?_, Below.grown hBw HG.out (Nat.le_trans hB hBw.size) (fun q hq => by injection hq with hq; omega)⟩
      unfold OwnI
      rw [HLE.out]
      exact HTR.out
end Go.Proofs.Ytfebncpfhdgkpaa
