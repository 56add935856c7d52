/- The law's example; plain laws of spans. -/
import Derived.Test.YtncdchhpdbmfcaaDoorRngH
namespace Go.Proofs.YtncdchhpdbmfcaaDoor
open Go.RowKit Go.Sort
theorem next_any (K : List ByteArray) (hU : UpT K) (f t : ByteArray) : nextB K (rk K f) t = K.any (apart2 f t) := by
  have h1 := rk_lt f K
  have h2 := rk_ge f K hU
  have hle : ∀ s, leT s f = !ltT f s := fun s => (not_ltT f s).symm
  unfold nextB
  rcases Nat.lt_or_ge (rk K f) K.length with h3 | h3
  · rw [List.getElem?_eq_getElem h3]
    simp only
    have h4 := h2 _ h3 (Nat.le_refl _)
    rw [hle] at h4
    have h5 : ltT f K[rk K f] = true := by simpa using h4
    cases h6 : ltT K[rk K f] t with
    | true =>
      symm
      rw [List.any_eq_true]
      exact ⟨_, List.getElem_mem h3, by unfold apart2; rw [h5, h6]; rfl⟩
    | false =>
      symm
      rw [List.any_eq_false]
      intro s hs
      obtain ⟨j, hj, h7⟩ := List.getElem_of_mem hs
      unfold apart2
      rcases Nat.lt_or_ge j (rk K f) with h8 | h8
      · have h9 := h1 j hj h8
        rw [hle, h7] at h9
        have h10 : ltT f s = false := by simpa using h9
        rw [h10, Bool.false_and]; decide
      · have h9 : ltT s t = false := by
          cases h11 : ltT s t with
          | false => rfl
          | true =>
            have h12 : ltT K[rk K f] t = true := by
              rcases Nat.lt_or_ge (rk K f) j with h13 | h13
              · have h14 := List.pairwise_iff_getElem.1 hU (rk K f) j h3 hj h13
                rw [h7] at h14
                exact (ltT_iff _ _).2 (Cmp.lt_le cmp_T ((ltT_iff _ _).1 h14) (Int.le_of_lt ((ltT_iff _ _).1 h11)))
              · have h14 : j = rk K f := by omega
                subst h14
                rw [h7]; exact h11
            rw [h6] at h12
            cases h12
        rw [h9, Bool.and_false]; decide
  · rw [List.getElem?_eq_none h3]
    simp only
    symm
    rw [List.any_eq_false]
    intro s hs
    obtain ⟨j, hj, h7⟩ := List.getElem_of_mem hs
    have h9 := h1 j hj (by omega)
    rw [hle, h7] at h9
    have h10 : ltT f s = false := by simpa using h9
    unfold apart2
    rw [h10, Bool.false_and]; decide
theorem span_code (K : List ByteArray) (hU : UpT K) (f t : ByteArray) : (spanV K f t).1 = (if codeV K f t = 0 then ((rk K f : Nat) : Int) else 0) ∧ (spanV K f t).2 = codeV K f t ∧ (codeV K f t = 0 ∨ codeV K f t = 201 ∨ codeV K f t = 202) := by
  unfold spanV codeV
  rw [next_any K hU]
  by_cases h : keyB f = false ∨ keyB t = false ∨ ltT f t = false
  · rw [if_pos h, if_pos h]
    exact ⟨rfl, rfl, .inr (.inl rfl)⟩
  · rw [if_neg h, if_neg h]
    by_cases h2 : K.any (apart2 f t) = true
    · rw [if_pos h2, if_pos h2]
      exact ⟨rfl, rfl, .inr (.inr rfl)⟩
    · rw [if_neg h2, if_neg h2]
      exact ⟨rfl, rfl, .inl rfl⟩

def mB : ByteArray := ⟨#[109]⟩
set_option maxRecDepth 100000 in
theorem key_m : keyB mB = true := by decide +kernel
set_option maxRecDepth 100000 in
theorem rk_k : rk [mB] ⟨#[107]⟩ = 0 := by decide +kernel
set_option maxRecDepth 100000 in
theorem rk_m : rk [mB] mB = 1 := by decide +kernel
theorem right_m : RightR 3 2 [mB] := ⟨by decide, by decide, by decide, by decide, by decide, fun j hj => by
  have hj0 : j = 0 := by simpa using hj
  subst hj0
  exact ⟨mB, rfl, key_m, fun t h => absurd h (Nat.lt_irrefl 0)⟩⟩

set_option maxRecDepth 100000 in
set_option maxHeartbeats 1000000 in
theorem law20_alive (w : World) (hT : Tabs w) : Calls Tryd.prog 11 #[] w fun e w' => e = .returned (.bool true) ∧ Below w.heap.size w w' := by
  have hO := own_litX w w.heap.size (Nat.le_refl _) mB
  have bL := (Below.refl w.heap.size w).alloc (Nat.le_refl _) (.cells #[.string mB] 9)
  have HN := Lib.hid (ring_New 3 2 (some ⟨w.heap.size, 0, none⟩) 1 1 [mB] _ (hT.below bL) (Reads.of_own hO) (by decide) (fun s hs => by rw [List.mem_singleton.1 hs]; decide) (by decide) (by decide) (by decide) (by decide))
  have hU := right_starts right_m
  have hne := right_ne right_m
  have HRK : Hid (∀ g P w, RingAt w g (⟨#[]⟩ :: [mB]) 3 2 P → Calls Tryd.prog 19 #[.pointer (some ⟨g, 0, none⟩), .string ⟨#[107]⟩] w fun e w' => e = .returned (.int .i64 0) ∧ w = w') := Lib.hid (fun g P w hr => by
    have h := ring_Range g [mB] 3 2 P ⟨#[107]⟩ w hr hU hne (by decide)
    rw [rk_k] at h
    exact h)
  have HRM : Hid (∀ g P w, RingAt w g (⟨#[]⟩ :: [mB]) 3 2 P → Calls Tryd.prog 19 #[.pointer (some ⟨g, 0, none⟩), .string ⟨#[109]⟩] w fun e w' => e = .returned (.int .i64 1) ∧ w = w') := Lib.hid (fun g P w hr => by
    have h := ring_Range g [mB] 3 2 P mB w hr hU hne (by decide)
    rw [rk_m] at h
    exact h)
  obtain ⟨w1, hw1⟩ : ∃ w1, w.alloc (.cells #[.string ⟨#[109]⟩] 9) = w1 := ⟨_, rfl⟩
  have HW1 := Lib.hid hw1
  have b1 : Below w.heap.size w w1 := hw1 ▸ bL
  replace HN : Hid (Calls Tryd.prog 8 #[.int .i64 3, .int .i64 2, .slice (some ⟨w.heap.size, 0, none⟩) 1 1] w1 (NewE 3 2 [mB] w1)) := Lib.hid (by rw [← hw1]; exact HN.out)
  clear hw1 hO bL hU hne
  go_enter Tryd.func11, Tryd.ntmps11
  go_upto_region 1 with fail
  go_wp2_with fail
  rw [HW1.out]
  refine HN.out.mono ?_
  rintro e w2 (⟨_, N, g, hN, rfl, hR, b2⟩ | ⟨h, _⟩)
  · have hN3 : N = 3 := by omega
    subst hN3
    have HR := Lib.hid hR
    have hb2 := b1.trans (b2.mono b1.size)
    clear hR hN b2 b1
    go_wp2_with fail
    refine (HRK.out g _ w2 HR.out).mono ?_
    rintro e w3 ⟨rfl, rfl⟩
    go_wp2_with fail
    refine (HRM.out g _ w2 HR.out).mono ?_
    rintro e w3 ⟨rfl, rfl⟩
    go_wp2_with fail
    have hPl : (sortU (plcs (3 * 4))).length ≤ 100 := by rw [(sortU_perm _).length_eq, plcs_len]; decide
    refine (ring_Replicas g _ 3 2 _ 1 w2 HR.out (sortU_upU _) (by decide) hPl (by decide) (by decide)).mono ?_
    rintro e w4 ⟨v, rfl, o4, b4⟩
    have hl := repls_full (⟨#[]⟩ :: [mB]) 3 2 1 (by decide) (by decide) (by decide) (by decide)
    obtain ⟨R, hR⟩ : ∃ R, repls (⟨#[]⟩ :: [mB]) (sortU (plcs (3 * 4))) 2 1 = R := ⟨_, rfl⟩
    rw [hR] at o4 hl
    obtain ⟨A, c, hv, -, -, -⟩ := o4.reads
    have hl2 : R.length = 2 := by omega
    rw [hl2] at hv
    subst hv
    clear o4 hR hl hl2 hPl HR
    go_wp2_with fail
    go_ret
    exact ⟨rfl, hb2.trans (b4.mono hb2.size)⟩
  · exact absurd right_m h
end Go.Proofs.YtncdchhpdbmfcaaDoor
