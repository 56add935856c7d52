/- Rows of hints: what lies in memory and what hangs on it. Contracts of slices.IndexFunc, ContainsFunc and Clone over hints. -/
import Derived.Test.YtfkooohnaodjmaaMutM
import Derived.Test.YtfkooohnaodjmaaForm
import Derived.Lib.SliceRun
namespace Go.Proofs.Ytfkooohnaodjmaa
open Go.RowKit Go.Sort

/-- A hint as it lies: with its mutation's row of stamps. -/
structure HintS where
  to : Int
  until_ : Int
  e : MutS
/-- A hint, whatever memory it lies in. -/
structure HintP where
  to : Int
  until_ : Int
  m : Mut
def hp (h : HintS) : HintP := ⟨h.to, h.until_, h.e.m⟩
def hintL (h : HintS) : List Value := [.int .i64 h.to, .int .i64 h.until_, .int .i64 h.e.m.tab, .int .i64 h.e.m.kind, .string h.e.m.key, .string h.e.m.en, .string h.e.m.val, .int .i64 h.e.m.exp, .int .i64 h.e.m.at_.1, .int .i64 h.e.m.at_.2.1, .int .i64 h.e.m.at_.2.2, .slice h.e.A h.e.n h.e.c]
def hintC (h : HintS) : Array Value := #[.int .i64 h.to, .int .i64 h.until_, .int .i64 h.e.m.tab, .int .i64 h.e.m.kind, .string h.e.m.key, .string h.e.m.en, .string h.e.m.val, .int .i64 h.e.m.exp, .int .i64 h.e.m.at_.1, .int .i64 h.e.m.at_.2.1, .int .i64 h.e.m.at_.2.2, .slice h.e.A h.e.n h.e.c]
theorem hintL_len (h : HintS) : (hintL h).length = 12 := rfl
theorem hint_one (h : HintS) : ∀ u ∈ hintL h, u.oneCell' = true := by
  intro u hu
  simp only [hintL, List.mem_cons, List.mem_nil_iff, or_false] at hu
  rcases hu with rfl | rfl | rfl | rfl | rfl | rfl | rfl | rfl | rfl | rfl | rfl | rfl <;> rfl
theorem hints_one (L : List HintS) : ∀ u ∈ L.flatMap hintL, u.oneCell' = true := fun u hu => by
  obtain ⟨s, _, h⟩ := List.mem_flatMap.1 hu
  exact hint_one s u h
def okH (h : HintS) : Prop := h.e.n ≤ 1000000000 ∧ (h.e.A = none → h.e.c = 0)
abbrev HangH (w : World) (own : Option Nat) (L : List HintS) : Prop := Hangs 3 (fun h : HintS => h.e.A) (fun h : HintS => h.e.n) (fun h : HintS => h.e.m.ov.flatMap sc) w own L
theorem hints_n {w : World} {B n : Nat} {A : Option Addr} {L : List HintS} (h : Reads w B 12 A n (L.flatMap hintL)) : L.length = n := by
  have hl := h.1
  rw [flat_len hintL 12 hintL_len] at hl
  omega
theorem hint_at {w : World} {B n : Nat} {A : Option Addr} {L : List HintS} (h : Reads w B 12 A n (L.flatMap hintL)) {k : Nat} (hk : k < L.length) : ∃ b off, A = some ⟨b, off, none⟩ ∧ b < B ∧ ∀ i u, i < 12 → (hintL L[k])[i]? = some u → w.cell? ⟨b, off + k * 12 + i, none⟩ = some u := by
  have hl := hints_n h
  obtain ⟨b, off, hA, hb, hc⟩ := h.form3 (by omega) (by decide)
  refine ⟨b, off, hA, hb, fun i u hi hu => ?_⟩
  have := hc (k * 12 + i) u ((flat_get hintL 12 hintL_len L k i hk hi).trans hu)
  rw [← Nat.add_assoc] at this
  exact this
theorem info_hint : (Try.prog.info? 45).map (fun i => (i.zero, i.size, i.bytes)) = some (some (.agg #[.int .i64 0, .int .i64 0, .int .i64 0, .int .i64 0, .string ⟨#[]⟩, .string ⟨#[]⟩, .string ⟨#[]⟩, .int .i64 0, .int .i64 0, .int .i64 0, .int .i64 0, .slice none 0 0]), 12, 136) := by kernel_rfl
/-- A row of hints that the call owns. -/
def OwnH (w : World) (base : Nat) (v : Value) (L : List HintS) : Prop := w.ownsRow base 45 12 v L.length (L.flatMap hintL)
/-- What is asked of a predicate: at every hint, in every world in which the blocks of S lie as they did. -/
def PredH (g : Nat) (lb : Array Value) (p : HintP → Bool) (S : Nat → Prop) (w : World) : Prop :=
  ∀ (W : World) (h : HintS), Stand S w W → Reads W W.heap.size 3 h.e.A h.e.n (h.e.m.ov.flatMap sc) → okH h →
    Calls Try.prog g (#[.agg (hintC h)] ++ lb) W fun e w' => e = .returned (.bool (p (hp h))) ∧ Below W.heap.size W w'
theorem PredH.after {g : Nat} {lb : Array Value} {p : HintP → Bool} {S : Nat → Prop} {w w' : World} (h : PredH g lb p S w) (hs : Stand S w w') : PredH g lb p S w' := fun W x hW => h W x (hs.trans hW)
section
variable {α : Type}
/-- The place of the first one that meets p; -1: there is none. -/
def IdxP (p : α → Bool) (l : List α) (r : Int) : Prop := (r = -1 ∧ ∀ x ∈ l, p x = false) ∨ ∃ k : Nat, r = k ∧ k < l.length ∧ (∃ x, l[k]? = some x ∧ p x = true) ∧ ∀ x ∈ l.take k, p x = false
theorem IdxP.any {p : α → Bool} {l : List α} {r : Int} (h : IdxP p l r) : decide (0 ≤ r) = l.any p := by
  rcases h with ⟨rfl, h⟩ | ⟨k, rfl, _, ⟨x, hx, hp⟩, _⟩
  · have : l.any p = false := by
      rw [List.any_eq_false]
      intro x hx
      rw [h x hx]
      decide
    rw [this]
    decide
  · have : l.any p = true := List.any_eq_true.2 ⟨x, List.mem_of_getElem? hx, hp⟩
    rw [this]
    simp
theorem take_noneP {p : α → Bool} {l : List α} {k : Nat} {x : α} (h : ∀ y ∈ l.take k, p y = false) (hk : k < l.length) (hx : l[k] = x) (hp : p x = false) : ∀ y ∈ l.take (k + 1), p y = false := by
  intro y hy
  rw [List.take_succ_eq_append_getElem hk] at hy
  rcases List.mem_append.1 hy with hy | hy
  · exact h y hy
  · rw [List.mem_singleton] at hy
    rw [hy, hx]
    exact hp
end

set_option maxRecDepth 100000 in
set_option maxHeartbeats 2000000 in
theorem hints_IndexFunc (A : Option Addr) (n c : Nat) (L : List HintS) (w : World) (S : Nat → Prop) (g : Nat) (lb : Array Value) (p : HintP → Bool) (eg : ∀ args w, (callFunc g args).run Try.prog w = .ok (.enter g args) w)
    (hr : Reads w w.heap.size 12 A n (L.flatMap hintL)) (hg : HangH w none L) (hz : ∀ h ∈ L, okH h) (hn : n ≤ 1000000000) (hp : PredH g lb p S w) :
    Calls Try.prog 48 #[.slice A n c, .func (.func g) #[] lb] w fun e w' => ∃ r, e = .returned (.int .i64 r) ∧ IdxP (fun h => p (Go.Proofs.Ytfkooohnaodjmaa.hp h)) L r ∧ Below w.heap.size w w' := by
  have HL := Lib.hid (hints_n hr)
  have HR := Lib.hid hr
  have HG := Lib.hid hg
  have HZ := Lib.hid hz
  have HP := Lib.hid hp
  clear hr hp hg hz
  go_enter Try.func48, Try.ntmps48
  go_wp2
  go_loopw [5, 8] (fun _ v8 wr => ∃ k : Nat, v8 = .int .i64 k ∧ k ≤ n ∧ (∀ x ∈ L.take k, p (Go.Proofs.Ytfkooohnaodjmaa.hp x) = false) ∧ Below w.heap.size w wr) (fun _ v8 _ => n - (intOf v8).toNat)
  case atStart => exact ⟨0, rfl, Nat.zero_le _, by simp, Below.refl _ _⟩
  case round =>
    obtain ⟨k, rfl, hk, hx, hb⟩ := hrel
    have HX := Lib.hid hx
    clear hx
    by_cases hlt : k < n
    · have hkl : k < L.length := by have := HL.out; omega
      obtain ⟨b, off, hA, hbb, hc⟩ := hint_at ((HR.out.below hb).more hb.size) hkl
      subst hA
      have hrow := (HG.out.below hb).at_ hkl
      have hok := HZ.out _ (List.getElem_mem hkl)
      have hget : L[k]? = some L[k] := List.getElem?_eq_getElem hkl
      obtain ⟨x, hx⟩ : ∃ x, L[k]'hkl = x := ⟨_, rfl⟩
      rw [hx] at hc hrow hok hget
      have hcall := HP.out wr x (Stand.of_below hb) hrow hok
      have HXX := Lib.hid hx
      have HGT := Lib.hid hget

      have q0 : wr.cell? ⟨b, off + k * 12, none⟩ = some (.int .i64 x.to) := hc 0 _ (by decide) rfl
      have q1 : wr.cell? ⟨b, off + k * 12 + 1, none⟩ = some (.int .i64 x.until_) := hc 1 _ (by decide) rfl
      have q2 : wr.cell? ⟨b, off + k * 12 + 2, none⟩ = some (.int .i64 x.e.m.tab) := hc 2 _ (by decide) rfl
      have q3 : wr.cell? ⟨b, off + k * 12 + 3, none⟩ = some (.int .i64 x.e.m.kind) := hc 3 _ (by decide) rfl
      have q4 : wr.cell? ⟨b, off + k * 12 + 4, none⟩ = some (.string x.e.m.key) := hc 4 _ (by decide) rfl
      have q5 : wr.cell? ⟨b, off + k * 12 + 5, none⟩ = some (.string x.e.m.en) := hc 5 _ (by decide) rfl
      have q6 : wr.cell? ⟨b, off + k * 12 + 6, none⟩ = some (.string x.e.m.val) := hc 6 _ (by decide) rfl
      have q7 : wr.cell? ⟨b, off + k * 12 + 7, none⟩ = some (.int .i64 x.e.m.exp) := hc 7 _ (by decide) rfl
      have q8 : wr.cell? ⟨b, off + k * 12 + 8, none⟩ = some (.int .i64 x.e.m.at_.1) := hc 8 _ (by decide) rfl
      have q9 : wr.cell? ⟨b, off + k * 12 + 9, none⟩ = some (.int .i64 x.e.m.at_.2.1) := hc 9 _ (by decide) rfl
      have q10 : wr.cell? ⟨b, off + k * 12 + 10, none⟩ = some (.int .i64 x.e.m.at_.2.2) := hc 10 _ (by decide) rfl
      have q11 : wr.cell? ⟨b, off + k * 12 + 11, none⟩ = some (.slice x.e.A x.e.n x.e.c) := hc 11 _ (by decide) rfl
      clear hc hx hget hrow hok hbb
      unfold hintC at hcall
      cases hq : p (Go.Proofs.Ytfkooohnaodjmaa.hp x) with
      | true =>
        rw [hq] at hcall
        have HQ := Lib.hid hq
        have HC := Lib.hid hcall
        clear hq hcall
        go_wp2_with fail
        refine HC.out.mono ?_
        rintro e w' ⟨rfl, hb'⟩
        go_wp2_with fail
        go_ret
        exact ⟨k, rfl, .inr ⟨k, rfl, hkl, ⟨_, HGT.out, HQ.out⟩, HX.out⟩, hb.trans (hb'.mono hb.size)⟩
      | false =>
        rw [hq] at hcall
        have HQ := Lib.hid hq
        have HC := Lib.hid hcall
        clear hq hcall
        go_wp2_with fail
        refine HC.out.mono ?_
        rintro e w' ⟨rfl, hb'⟩
        go_wp2_with fail
        go_roundw
        case rel => exact ⟨k + 1, by go_num, by omega, take_noneP (p := fun h => p (Go.Proofs.Ytfkooohnaodjmaa.hp h)) HX.out hkl HXX.out HQ.out, hb.trans (hb'.mono hb.size)⟩
        case measure => simp [intOf]; omega
    · go_wp2
      go_ret
      exact ⟨-1, rfl, .inl ⟨rfl, by have := HX.out; rwa [List.take_of_length_le (by have := HL.out; omega)] at this⟩, hb⟩

set_option maxRecDepth 100000 in
theorem hints_ContainsFunc (A : Option Addr) (n c : Nat) (L : List HintS) (w : World) (S : Nat → Prop) (g : Nat) (lb : Array Value) (p : HintP → Bool) (eg : ∀ args w, (callFunc g args).run Try.prog w = .ok (.enter g args) w)
    (hr : Reads w w.heap.size 12 A n (L.flatMap hintL)) (hg : HangH w none L) (hz : ∀ h ∈ L, okH h) (hn : n ≤ 1000000000) (hp : PredH g lb p S w) :
    Calls Try.prog 22 #[.slice A n c, .func (.func g) #[] lb] w fun e w' => e = .returned (.bool (L.any fun h => p (Go.Proofs.Ytfkooohnaodjmaa.hp h))) ∧ Below w.heap.size w w' := by
  have HC := Lib.hid (hints_IndexFunc A n c L w S g lb p eg hr hg hz hn hp)
  clear hr hp hg hz
  go_enter Try.func22, Try.ntmps22
  go_wp2_with fail
  refine HC.out.mono ?_
  rintro e w' ⟨r, rfl, hr, hb⟩
  have HR := Lib.hid hr.any
  clear hr
  go_wp2_with fail
  go_ret
  exact ⟨ret_bool' HR.out, hb⟩

def FreshH (w : World) (L : List HintS) (e : Ending) (w' : World) : Prop := ∃ v', e = .returned v' ∧ OwnH w' w.heap.size v' L ∧ Below w.heap.size w w'

set_option maxRecDepth 100000 in
set_option maxHeartbeats 1000000 in
theorem hints_Clone (A : Option Addr) (n c : Nat) (L : List HintS) (w : World) (hr : Reads w w.heap.size 12 A n (L.flatMap hintL)) (hA : A = none → c = 0) (hlen : n ≤ 1000000) :
    Calls Try.prog 54 #[.slice A n c] w (FreshH w L) := by
  have hnl := hints_n hr
  rcases A with _ | ad
  · have hc := hA rfl
    subst hc
    have h0 : n = 0 := by
      rcases Nat.eq_zero_or_pos n with h | h
      · exact h
      · obtain ⟨ad, h1, _⟩ := hr.2 h
        cases h1
    subst h0
    have hl := List.eq_nil_of_length_eq_zero hnl
    subst hl
    clear hr hA hnl
    have F : Hid (FreshH w [] (.returned (.slice none 0 0)) w) := Lib.hid ⟨_, rfl, World.ownsRow_nil _ _ _ _, Below.refl _ _⟩
    have hq := fun (w : World) (a : Option Addr) (n c n' c' : Nat) => Lib.run_eql_slice_nil (P := Try.prog) w 24 45 a n c n' c' Try.underlying24
    go_enter Try.func54, Try.ntmps54
    go_wp2
    go_ret
    exact F.out
  · clear hA
    have HR := Lib.hid hr
    clear hr
    have hq := fun (w : World) (a : Option Addr) (n c n' c' : Nat) => Lib.run_eql_slice_nil (P := Try.prog) w 24 45 a n c n' c' Try.underlying24
    obtain ⟨i0, hi, hz0, hz1, hz2⟩ := info_parts info_hint
    have HI := Lib.hid (And.intro hi (And.intro hz0 (And.intro hz1 hz2)))
    have HN := Lib.hid hnl
    clear hi hz0 hz1 hz2 hnl
    go_enter Try.func54, Try.ntmps54
    go_wp2_with (at_builtin; go_must (refine wpList_append_any _ rfl _ _ 24 rfl w.heap.size 45 i0 (.agg #[.int .i64 0, .int .i64 0, .int .i64 0, .int .i64 0, .string ⟨#[]⟩, .string ⟨#[]⟩, .string ⟨#[]⟩, .int .i64 0, .int .i64 0, .int .i64 0, .int .i64 0, .slice none 0 0]) 12 136 Try.underlying24 HI.out.1 HI.out.2.1 HI.out.2.2.1 HI.out.2.2.2 rfl (by decide) (.slice (some ⟨w.heap.size, 0, none⟩) 0 0) 0 [] rfl (World.ownsRow_made w #[] 0 (Nat.le_refl _) (by decide) (by decide)) w.heap.size (some ad) n c (L.flatMap hintL) rfl (HR.out.alloc (Nat.le_refl _) _) (hints_one _) (by unfold maxLen; omega) (by omega) (by simp) ?_); intro v' w1 hown hg hlies)
    go_ret
    refine ⟨v', rfl, ?_, ?_⟩
    · unfold OwnH
      rw [Nat.zero_add, List.nil_append] at hown
      rw [HN.out]
      exact hown
    · refine Below.grown ((Below.refl _ _).alloc (Nat.le_refl _) _) hg (by simp) ?_
      intro k hk
      have h5 : w.heap.size = k := by simpa [Value.ownBlock] using hk
      omega
end Go.Proofs.Ytfkooohnaodjmaa
