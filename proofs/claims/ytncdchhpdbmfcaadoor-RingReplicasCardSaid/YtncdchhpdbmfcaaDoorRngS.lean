/- Contracts of the reference's in, Replicas, Has. -/
import Derived.Test.YtncdchhpdbmfcaaDoorRngI
import Derived.Test.YtncdchhpdbmfcaaDoorRngR
namespace Go.Proofs.YtncdchhpdbmfcaaDoor
open Go.RowKit Go.Sort

set_option maxRecDepth 100000 in
theorem ref20_in (A : Option Addr) (n c : Nat) (l : List Int) (x : Int) (w : World) (hr : Reads w w.heap.size 1 A n (l.map vi)) (hn : n ≤ 1000000) :
    Calls Tryd.prog 38 #[.slice A n c, .int .i64 x] w fun e w' => e = .returned (.bool (l.any fun y => x == y)) ∧ w = w' := by
  have hN : l.length = n := by have := hr.1; simpa using this
  obtain ⟨q, hq⟩ : ∃ q, (l.any fun y => x == y) = q := ⟨_, rfl⟩
  rw [hq]
  have HQ := Lib.hid hq
  have HR := Lib.hid hr
  have HN := Lib.hid hN
  clear hr hN hq
  go_enter Tryd.func38, Tryd.ntmps38
  go_wp2_with fail
  go_loop [5] (fun v5 => ∃ i : Nat, v5 = .int .i64 i ∧ i ≤ n ∧ x ∉ l.take i) (fun v5 => n - (intOf v5).toNat)
  case atStart => exact ⟨0, rfl, Nat.zero_le _, by simp⟩
  case round =>
    obtain ⟨i, rfl, hi, hs⟩ := hrel
    have HS := Lib.hid hs
    clear hs
    by_cases hin : i < n
    · have hil : i < l.length := by have := HN.out; omega
      obtain ⟨b, off, rfl, hb, hc1⟩ := Reads.form HR.out (by omega)
      obtain ⟨z, hz⟩ : ∃ z, l[i]'hil = z := ⟨_, rfl⟩
      have q0 := hc1 i (vi z) (by rw [List.getElem?_map, List.getElem?_eq_getElem hil, hz]; rfl)
      unfold vi at q0
      have HZ := Lib.hid hz
      clear hc1 hz
      by_cases hzx : z = x
      · have HT : Hid (true = q) := Lib.hid (by rw [← HQ.out, Eq.comm, any_mem, ← hzx, ← HZ.out]; exact List.getElem_mem hil)
        subst hzx
        go_wp2_with fail
        go_ret
        exact ⟨by rw [← HT.out]; rfl, rfl⟩
      · go_wp2_with fail
        go_round
        case rel => exact ⟨i + 1, by go_num, hin, fun h => by
          rw [List.take_succ_eq_append_getElem hil, HZ.out] at h
          rcases List.mem_append.1 h with h | h
          · exact HS.out h
          · exact hzx (List.mem_singleton.1 h).symm⟩
        case measure => simp [intOf]; omega
    · have hF : Hid (false = q) := Lib.hid (by
        have h := HS.out
        rw [List.take_of_length_le (by have := HN.out; omega)] at h
        have h2 := HQ.out
        cases q with
        | false => rfl
        | true => exact absurd ((any_mem l x).1 h2) h)
      go_wp2_with fail
      go_ret
      exact ⟨by rw [← hF.out]; rfl, rfl⟩

/-- The nearest place so far of a node that is not there yet. -/
def Best (out : List Int) (x m : Nat) (b : Int) (f : Nat) : Prop :=
  (b = -1 ∧ f = 0 ∧ ∀ q ∈ plcs m, nd q ∈ out) ∨ ∃ p ∈ plcs m, b = nd p ∧ f = farU x p ∧ nd p ∉ out ∧ ∀ q ∈ plcs m, nd q ∉ out → farU x p ≤ farU x q
theorem mem_succ (m : Nat) (q : Pl) : q ∈ plcs (m + 1) ↔ q ∈ plcs m ∨ q = plc m := by rw [plcs_succ, List.mem_append, List.mem_singleton]
theorem best_in {out : List Int} {x m : Nat} {b : Int} {f : Nat} (h : Best out x m b f) (hp : nd (plc m) ∈ out) : Best out x (m + 1) b f := by
  rcases h with ⟨h1, h2, h3⟩ | ⟨p, h1, h2, h3, h4, h5⟩
  · exact .inl ⟨h1, h2, fun q hq => by
      rcases (mem_succ m q).1 hq with h | h
      · exact h3 q h
      · rw [h]; exact hp⟩
  · exact .inr ⟨p, (mem_succ m p).2 (.inl h1), h2, h3, h4, fun q hq hn => by
      rcases (mem_succ m q).1 hq with h | h
      · exact h5 q h hn
      · rw [h] at hn; exact absurd hp hn⟩
theorem nd_nn (p : Pl) : 0 ≤ nd p := by unfold nd; omega
theorem best_new {out : List Int} {x m : Nat} {b : Int} {f : Nat} (h : Best out x m b f) (hp : nd (plc m) ∉ out) (hb : b < 0 ∨ farU x (plc m) < f) : Best out x (m + 1) (nd (plc m)) (farU x (plc m)) := by
  refine .inr ⟨plc m, (mem_succ m _).2 (.inr rfl), rfl, rfl, hp, fun q hq hn => ?_⟩
  rcases (mem_succ m q).1 hq with h6 | h6
  · rcases h with ⟨h1, h2, h3⟩ | ⟨p, h1, h2, h3, h4, h5⟩
    · exact absurd (h3 q h6) hn
    · rcases hb with hb | hb
      · have := nd_nn p; omega
      · have := h5 q h6 hn; omega
  · rw [h6]; exact Nat.le_refl _
theorem best_old {out : List Int} {x m : Nat} {b : Int} {f : Nat} (h : Best out x m b f) (hb : ¬ b < 0) (hf : ¬ farU x (plc m) < f) : Best out x (m + 1) b f := by
  rcases h with ⟨h1, h2, h3⟩ | ⟨p, h1, h2, h3, h4, h5⟩
  · omega
  · exact .inr ⟨p, (mem_succ m p).2 (.inl h1), h2, h3, h4, fun q hq hn => by
      rcases (mem_succ m q).1 hq with h | h
      · exact h5 q h hn
      · rw [h]; omega⟩
theorem start_get (K : List ByteArray) (i : Int) (h1 : 0 ≤ i) (h2 : i ≤ K.length) : (((⟨#[]⟩ : ByteArray) :: K)[i.toNat]?).getD ⟨#[]⟩ = startT K i := by
  unfold startT
  rcases Int.lt_or_eq_of_le h1 with h3 | h3
  · obtain ⟨m, hm⟩ : ∃ m : Nat, i = (m : Int) + 1 := ⟨(i - 1).toNat, by omega⟩
    rw [if_pos ⟨by omega, h2⟩]
    subst hm
    rw [show ((m : Int) + 1).toNat = m + 1 by omega, show (((m : Int) + 1) - 1).toNat = m by omega]
    simp only [List.getElem?_cons_succ]
  · subst h3
    rw [if_neg (by omega)]
    rfl
def slLen : Value → Nat
  | .slice _ n _ => n
  | _ => 0
/-- The list that the greedy choice makes. -/
def goalL (N x : Nat) (c : Int) (out : List Int) : List Int := ((clockL (sortU (plcs (N * 4))) x).map nd).foldl (stepR c) out
theorem best_goal {N x : Nat} {c : Int} {out : List Int} {b : Int} {f : Nat} (hN : N ≤ 5) (hx : x < 4294967296) (hc : (out.length : Int) < c) (hcN : c ≤ N) (h : Best out x (4 * N) b f) : goalL N x c out = goalL N x c (out ++ [b]) := by
  rw [Nat.mul_comm] at h
  rcases h with ⟨h1, h2, h3⟩ | ⟨p, h1, h2, h3, h4, h5⟩
  · have h6 := pigeon N out (fun n hn => by
      have h7 := h3 (plc (n * 4)) (List.mem_map.2 ⟨n * 4, List.mem_range.2 (by omega), rfl⟩)
      have h8 : nd (plc (n * 4)) = (n : Int) := by
        show ((n * 4 / 4 : Nat) : Int) = n
        rw [Nat.mul_div_cancel _ (by decide)]
      rwa [h8] at h7)
    omega
  · rw [h2]
    exact greedy N x c out hN hx hc p h1 h4 h5
end Go.Proofs.YtncdchhpdbmfcaaDoor
