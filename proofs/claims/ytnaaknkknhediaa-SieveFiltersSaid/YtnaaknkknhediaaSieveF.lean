/- Contract of the reference's Of. At most 1000 keys of at most 10^9 bytes. -/
import Derived.Test.YtnaaknkknhediaaSieveB
import Derived.Test.YtnaaknkknhediaaSieveE
import Derived.Test.YtnaaknkknhediaaBytesB
namespace Go.Proofs.Ytnaaknkknhediaa
open Go.RowKit Go.Sort

theorem info_bool : (Try.prog.info? 4).map (fun i => (i.zero, i.size, i.bytes)) = some (some (.bool false), 1, 1) := by kernel_rfl
/-- The slice value v owns just the bits m, in a block from base on. -/
def OwnB (w : World) (base : Nat) (v : Value) (m : List Bool) : Prop := w.ownsRow base 4 1 v m.length (m.map Value.bool)
section
variable {w w' : World} {base : Nat} {v : Value} {m : List Bool}
theorem OwnB.below (h : OwnB w base v m) (hb : Below w.heap.size w w') : OwnB w' base v m := own_below h hb
theorem OwnB.alloc (h : OwnB w base v m) (o : Obj) : OwnB (w.alloc o) base v m := World.ownsRow.alloc h o
theorem OwnB.reads (h : OwnB w base v m) : ∃ A c, v = .slice A m.length c ∧ m.length ≤ c ∧ Reads w w.heap.size 1 A m.length (m.map Value.bool) := by
  obtain ⟨A, c, hv, hc, _, _⟩ := own_form h
  subst hv
  exact ⟨A, c, rfl, hc, Reads.of_own h⟩
theorem OwnB.kept {row : Option Nat} (h : OwnB w base v m) (hg : w.grownBy w' row) (hne : v.ownBlock = none ∨ v.ownBlock ≠ row) : OwnB w' base v m := World.ownsRow.kept h hg hne
theorem OwnB.len_eq {g n cap : Nat} (h : OwnB w base (.slice (some ⟨g, 0, none⟩) n cap) m) : n = m.length ∧ g < w.heap.size := by
  obtain ⟨A, c, hv, _⟩ := own_form h
  injection hv with _ h2 _
  exact ⟨h2, (World.ownsRow.lt h g rfl).2⟩
theorem OwnB.cell_at {g n cap : Nat} (h : OwnB w base (.slice (some ⟨g, 0, none⟩) n cap) m) (i : Nat) (hi : i < m.length) : w.cell? ⟨g, i, none⟩ = some (.bool m[i]) := by
  have hn := h.len_eq.1
  subst hn
  have h1 := World.ownsRow.cellAt (n := m.length) h i (by omega)
  rw [h1]
  simp [hi]
theorem OwnB.frozen_at {g n cap : Nat} (h : OwnB w base (.slice (some ⟨g, 0, none⟩) n cap) m) (i : Nat) : w.frozen? ⟨g, i, none⟩ = false := by
  have hn := h.len_eq.1
  subst hn
  exact World.ownsRow.frozenAt (n := m.length) h i
theorem OwnB.set_at {g n cap : Nat} (h : OwnB w base (.slice (some ⟨g, 0, none⟩) n cap) m) (i : Nat) (b : Bool) :
    OwnB (w.setCell ⟨g, i, none⟩ (.bool b)) base (.slice (some ⟨g, 0, none⟩) n cap) (m.set i b) ∧ w.grownBy (w.setCell ⟨g, i, none⟩ (.bool b)) (some g) := by
  have hn := h.len_eq.1
  subst hn
  have h1 := World.ownsRow.stored (n := m.length) h i (.bool b)
  refine ⟨?_, h1.2⟩
  unfold OwnB
  rw [List.length_set, List.map_set]
  exact h1.1
end

set_option maxRecDepth 100000 in
set_option maxHeartbeats 4000000 in
theorem ref14_Of (A : Option Addr) (n c : Nat) (K : List ByteArray) (w : World) (hr : Reads w w.heap.size 1 A n (K.map Value.string)) (hn : n ≤ 1000) (hK : ∀ s ∈ K, s.size ≤ 1000000000) :
    Calls Try.prog 70 #[.slice A n c] w fun e w' => ∃ v', e = .returned v' ∧ OwnB w' w.heap.size v' (ofB (fN n) (keyRunes K)) ∧ Below w.heap.size w w' := by
  have hll : K.length = n := by have := hr.1; simpa using this
  have HL := Lib.hid hll
  have HR := Lib.hid hr
  have HK := Lib.hid hK
  obtain ⟨i0, hi, hz0, hz1, hz2⟩ := info_parts info_bool
  clear hll hr hK
  have hfn : fN n ≤ 65536 := by unfold fN; omega
  have hf1 : (1 : Int) + 10 * (n : Int) / 8 = ((fN n : Nat) : Int) := by unfold fN; omega
  have hf2 : 8 * ((1 : Int) + 10 * (n : Int) / 8) = ((8 * fN n : Nat) : Int) := by unfold fN; omega
  have hf3 : decide (65536 < (1 : Int) + 10 * (n : Int) / 8) = false := by simp; omega
  have hf4 : decide ((65536 : Int) < ((fN n : Nat) : Int)) = false := by simp; omega
  go_enter Try.func70, Try.ntmps70
  go_wp2_with (at_make; refine wpList_make_full _ rfl _ _ 96 rfl w.heap.size 4 i0 (.bool false) 1 Try.underlying96 hi hz0 hz1 .i64 .i64 _ _ (8 * fN n) rfl rfl (by first | exact hf2 | omega) (by first | exact hf2 | omega) (by rw [hz2]; omega) (by unfold maxLen; omega) (Nat.le_refl _) ?_; intro w2 O2 G2)
  have hO : OwnB w2 w.heap.size (.slice (some ⟨w.heap.size, 0, none⟩) (8 * fN n) (8 * fN n)) (List.replicate (8 * fN n) false) := by
    unfold OwnB
    rw [List.length_replicate, List.map_replicate]
    have h9 := O2
    rw [show (Value.bool false).cells = #[.bool false] from rfl, toList_madeCells_one, Nat.mul_one] at h9
    exact h9
  have hB := below_of_grown_nil G2
  clear O2 G2 hf2 hf3
  generalize hNN : fN n = N at *
  have hN0 : 0 < N := by rw [← hNN]; unfold fN; omega
  have HNN := Lib.hid hNN
  clear hNN hf1 hi hz0 hz1 hz2 hf4
  go_loopw [5] (fun v5 wr => ∃ k : Nat, v5 = .int .i64 k ∧ k ≤ n ∧ OwnB wr w.heap.size (.slice (some ⟨w.heap.size, 0, none⟩) (8 * N) (8 * N)) (ofB N (keyRunes (K.take k))) ∧ Below w.heap.size w wr) (fun v5 _ => n - (intOf v5).toNat)
  case atStart => exact ⟨0, rfl, Nat.zero_le _, hO, hB⟩
  case round =>
    clear hO hB
    obtain ⟨k, rfl, hk, hO, hB⟩ := hrel
    by_cases hkn : k < n
    · obtain ⟨b, off, rfl, hb, hc⟩ := Reads.form (HR.out.below hB) (by omega)
      have hkl : k < K.length := by have := HL.out; omega
      have q0 := hc k (Value.string K[k]) (by simp [hkl])
      have hsk := HK.out K[k] (List.getElem_mem hkl)
      obtain ⟨s, hs⟩ : ∃ s, K[k] = s := ⟨_, rfl⟩
      rw [hs] at q0 hsk
      have hnext : ofB N (keyRunes (K.take (k + 1))) = addKey (ofB N (keyRunes (K.take k))) (rest s 0) := by
        rw [List.take_succ_eq_append_getElem hkl, hs]
        unfold ofB keyRunes
        rw [List.map_append, List.foldl_append]
        rfl
      have hml := ofB_len N (keyRunes (K.take k))
      have hltw := hO.len_eq.2
      have HNX := Lib.hid hnext
      have hbits := ref14_bits s (8 * N) wr hsk (by omega) (by omega)
      rw [show (((8 * N : Nat)) : Int) = 8 * (N : Int) by omega] at hbits
      have HBt := Lib.hid hbits
      clear hc hs hnext hbits
      go_wp2_with fail
      refine HBt.out.mono ?_
      rintro e w3 ⟨v3, rfl, OI, b3⟩
      replace hO := hO.below b3
      replace hB := hB.trans (b3.mono hB.size)
      have hb3 := b3.size
      clear b3 q0 HBt
      obtain ⟨R, hR⟩ : ∃ R, rest s 0 = R := ⟨_, rfl⟩
      rw [hR] at HNX OI
      clear hR
      obtain ⟨m, hm⟩ : ∃ m, ofB N (keyRunes (K.take k)) = m := ⟨_, rfl⟩
      rw [hm] at hO HNX hml
      clear hm
      have hlt := hO.len_eq.2
      obtain ⟨Ai, ci, rfl, _, _, hfi⟩ := own_form OI
      obtain ⟨gi, rfl, hgi, hgi2, hci⟩ := hfi (by simp [places])
      have hcI : ∀ j, j < 4 → w3.cell? ⟨gi, j, none⟩ = some (.int .i64 ((place R (8 * N) j : Nat) : Int)) := by
        intro j hj
        refine hci j _ ?_
        match j, hj with
        | 0, _ => rfl
        | 1, _ => rfl
        | 2, _ => rfl
        | 3, _ => rfl
      have HCI := Lib.hid hcI
      have hne : gi ≠ w.heap.size := by omega
      rw [show ((places R (8 * N)).map fun x : Nat => (x : Int)).length = 4 from rfl]
      clear hcI hfi OI
      go_wp2_with fail
      go_loopw [7] (fun v7 wr2 => ∃ j : Nat, v7 = .int .i64 j ∧ j ≤ 4 ∧ OwnB wr2 w.heap.size (.slice (some ⟨w.heap.size, 0, none⟩) (8 * N) (8 * N)) (setAll m ((places R m.length).take j)) ∧ w3.grownBy wr2 (some w.heap.size) ∧ Below w.heap.size w wr2) (fun v7 _ => 4 - (intOf v7).toNat)
      case atStart => exact ⟨0, rfl, by omega, hO, World.grownBy.refl w3 _, hB⟩
      case round =>
        clear hO hB
        obtain ⟨j, rfl, hj, hO, hG, hB⟩ := hrel
        by_cases hj4 : j < 4
        · have hml' := setAll_len ((places R m.length).take j) m
          have hpj : (places R m.length)[j]? = some (place R (8 * N) j) := by
            rw [hml]
            match j, hj4 with
            | 0, _ => rfl
            | 1, _ => rfl
            | 2, _ => rfl
            | 3, _ => rfl
          have hplt := place_lt R (8 * N) j (by omega)
          have hstep : setAll m ((places R m.length).take (j + 1)) = (setAll m ((places R m.length).take j)).set (place R (8 * N) j) true := by
            have hjl : j < (places R m.length).length := hj4
            rw [List.take_succ_eq_append_getElem hjl]
            rw [List.getElem?_eq_getElem hjl] at hpj
            injection hpj with hpj
            rw [hpj]
            unfold setAll
            rw [List.foldl_append]
            rfl
          have ci0 : wr.cell? ⟨gi, j, none⟩ = some (.int .i64 ((place R (8 * N) j : Nat) : Int)) := (World.cell?_of_block (hG.block gi hgi2 (by simp; omega))).trans (HCI.out j hj4)
          generalize place R (8 * N) j = p at *
          obtain ⟨m', hm'⟩ : ∃ m', setAll m ((places R m.length).take j) = m' := ⟨_, rfl⟩
          rw [hm'] at hO hstep hml'
          have HSt := Lib.hid hstep
          have hcell := hO.cell_at p (by omega)
          have hfro := hO.frozen_at p
          have z1 : (p : Int) < 8 * (N : Int) := by omega
          obtain ⟨hO', hG'⟩ := hO.set_at p true
          have hG2 : w3.grownBy (wr.setCell ⟨w.heap.size, p, none⟩ (.bool true)) (some w.heap.size) := ⟨hG'.os.trans hG.os, hG'.tape.trans hG.tape, hG'.output.trans hG.output, Nat.le_trans hG.size hG'.size, fun k hk hne => (hG'.block k (Nat.lt_of_lt_of_le hk hG.size) hne).trans (hG.block k hk hne)⟩
          have hB' := Below.grown hB hG' hB.size (fun q hq => by injection hq with hq; omega)
          clear hstep hm' hpj
          go_wp2_with fail
          go_roundw
          case rel => exact ⟨j + 1, by go_num, by omega, by rw [HSt.out]; exact hO', hG2, hB'⟩
          case measure => simp [intOf]; omega
        · have hje : j = 4 := by omega
          subst hje
          have htk : (places R m.length).take 4 = places R m.length := rfl
          rw [htk] at hO
          have hO2 : OwnB wr w.heap.size (.slice (some ⟨w.heap.size, 0, none⟩) (8 * N) (8 * N)) (ofB N (keyRunes (K.take (k + 1)))) := by
            rw [HNX.out]
            exact hO
          clear hO htk
          go_wp2_with fail
          go_roundw
          case rel => exact ⟨k + 1, by go_num, by omega, hO2, hB⟩
          case measure => simp [intOf]; omega
    · have hke : k = n := by omega
      subst hke
      rw [List.take_of_length_le (by rw [HL.out]; exact Nat.le_refl _)] at hO
      have HO := Lib.hid hO
      clear hO
      go_wp2_with fail
      go_ret
      exact ⟨_, rfl, by rw [HNN.out]; exact HO.out, hB⟩
end Go.Proofs.Ytnaaknkknhediaa
