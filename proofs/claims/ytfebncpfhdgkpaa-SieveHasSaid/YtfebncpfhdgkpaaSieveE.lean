/- Contract of sieve.Of. At most 1000 keys of at most 10^6 bytes. -/
import Derived.Test.YtfebncpfhdgkpaaSieveC
import Derived.Test.YtfebncpfhdgkpaaPlainX
import Derived.Test.YtfebncpfhdgkpaaOwn
import Derived.BigRegion
namespace Go.Proofs.Ytfebncpfhdgkpaa
open Go.RowKit Go.Sort

/-- The filter of keys, bit by bit. -/
def setAll (m : List Bool) (ps : List Nat) : List Bool := ps.foldl (fun m p => m.set p true) m
def addKey (m : List Bool) (R : List Nat) : List Bool := setAll m (places R m.length)
def ofB (n : Nat) (RS : List (List Nat)) : List Bool := RS.foldl addKey (List.replicate (8 * n) false)
theorem setAll_len : ∀ (ps : List Nat) (m : List Bool), (setAll m ps).length = m.length
  | [], _ => rfl
  | p :: ps, m => by
    have := setAll_len ps (m.set p true)
    rw [List.length_set] at this
    exact this
theorem addKey_len (m : List Bool) (R : List Nat) : (addKey m R).length = m.length := setAll_len _ _
theorem foldl_addKey_len : ∀ (RS : List (List Nat)) (m : List Bool), (RS.foldl addKey m).length = m.length
  | [], _ => rfl
  | R :: RS, m => by rw [List.foldl_cons, foldl_addKey_len RS, addKey_len]
theorem ofB_len (n : Nat) (RS : List (List Nat)) : (ofB n RS).length = 8 * n := by unfold ofB; rw [foldl_addKey_len]; simp
theorem pk_zero (n : Nat) : pk (List.replicate (8 * n) false) = List.replicate n 0 := by
  apply List.ext_getElem?
  intro k
  by_cases hk : k < n
  · rw [pk_get _ _ (by simp; omega)]
    have hz : ∀ i, (List.replicate (8 * n) false).getD i false = false := by
      intro i
      rw [List.getD_eq_getElem?_getD, List.getElem?_replicate]
      split <;> rfl
    unfold nb
    rw [hz, hz, hz, hz, hz, hz, hz, hz]
    simp [hk]
    rfl
  · rw [List.getElem?_eq_none (by rw [pk_len]; simp; omega), List.getElem?_eq_none (by simp; omega)]
/-- How many bytes the filter of so many keys has. -/
def fN (n : Nat) : Nat := 1 + 10 * n / 8

/-- The keys of a row of texts. -/
def keyRunes (K : List ByteArray) : List (List Nat) := K.map fun s => rest s 0

theorem only_set0 (w : World) (g i : Nat) (u : Value) : w.grownBy (w.setCell ⟨g, i, none⟩ u) (some g) :=
  ⟨rfl, rfl, rfl, by simp [World.setCell], fun k _ hne => Below.heap_setCell w _ u k (fun e => hne (by rw [e]))⟩
theorem Own.len_eq {w : World} {base g n cap : Nat} {l : List UInt8} (h : Own w base (.slice (some ⟨g, 0, none⟩) n cap) l) : n = l.length := by
  rcases h.form with ⟨hv, _⟩ | ⟨g', cap', hv, _⟩
  · injection hv with h1 _ _
    cases h1
  · injection hv
theorem Own.cell_at {w : World} {base g n cap : Nat} {l : List UInt8} (h : Own w base (.slice (some ⟨g, 0, none⟩) n cap) l) (i : Nat) (hi : i < l.length) : w.cell? ⟨g, i, none⟩ = some (.int .u8 ((l[i].toNat : Nat) : Int)) := by
  have hn := h.len_eq
  subst hn
  have h1 := World.ownsRow.cellAt (n := l.length) h i (by omega)
  rw [h1]
  simp [hi, vb]
theorem Own.set_at {w : World} {base g n cap : Nat} {l : List UInt8} (h : Own w base (.slice (some ⟨g, 0, none⟩) n cap) l) (i : Nat) (c : UInt8) (u : Value) (hu : u = vb c) :
    Own (w.setCell ⟨g, i, none⟩ u) base (.slice (some ⟨g, 0, none⟩) n cap) (l.set i c) ∧ w.grownBy (w.setCell ⟨g, i, none⟩ u) (some g) := by
  have hn := h.len_eq
  subst hn hu
  have h1 := World.ownsRow.stored (n := l.length) h i (vb c)
  refine ⟨?_, h1.2⟩
  unfold Own
  rw [List.length_set, List.map_set]
  exact h1.1
theorem bit_or (m : List Bool) (p : Nat) : bits .or .u8 ((nb m (p / 8) : Nat) : Int) (2 ^ (p % 8) % 256) = ((nb m (p / 8) ||| 2 ^ (p % 8) : Nat) : Int) ∧ nb m (p / 8) ||| 2 ^ (p % 8) < 256 := by
  have h8 : p % 8 < 8 := Nat.mod_lt _ (by decide)
  have h1 : 2 ^ (p % 8) < 256 := Nat.pow_lt_pow_right (by decide) h8
  have h2 : ((2 : Int) ^ (p % 8) % 256) = ((2 ^ (p % 8) : Nat) : Int) := by
    have h3 : ((2 : Int) ^ (p % 8)) = ((2 ^ (p % 8) : Nat) : Int) := by simp
    rw [h3]
    generalize 2 ^ (p % 8) = X at h1 ⊢
    omega
  rw [h2]
  exact ⟨u8_or_nat _ _ (nb_lt m _) h1, Nat.or_lt_two_pow (n := 8) (nb_lt m _) h1⟩

set_option maxRecDepth 100000 in
set_option maxHeartbeats 4000000 in
theorem sieve_Of (A : Option Addr) (n c : Nat) (K : List ByteArray) (w : World) (hr : Reads w w.heap.size 1 A n (K.map Value.string)) (hn : n ≤ 1000) :
    Calls Try.prog 39 #[.slice A n c] w fun e w' => ∃ v', e = .returned (.agg #[v']) ∧ Own w' w.heap.size v' (pk (ofB (fN n) (keyRunes K))) ∧ Below w.heap.size w w' := by
  have hll : K.length = n := by have := hr.1; simpa using this
  have HL := Lib.hid hll
  have HR := Lib.hid hr
  obtain ⟨i0, hi, hz0, hz1, hz2⟩ := info_parts info_u8
  clear hll hr
  have hfn : fN n ≤ 65536 := by unfold fN; omega
  have hf1 : (1 : Int) + 10 * (n : Int) / 8 = ((fN n : Nat) : Int) := by unfold fN; omega
  go_enter Try.func39, Try.ntmps39
  have hB : Below w.heap.size w (w.alloc (.cells #[.slice none 0 0] 61)) := (Below.refl _ _).alloc (Nat.le_refl _) _
  have BZ := Blk.new w 61 #[.slice none 0 0]
  go_wp2_with (at_make; refine wpList_make_full _ rfl _ _ 46 rfl (w.heap.size + 1) 5 i0 (.int .u8 0) 1 Try.underlying46 hi hz0 hz1 .i64 .i64 _ _ (fN n) rfl rfl (by first | exact hf1 | omega) (by first | exact hf1 | omega) (by rw [hz2]; omega) (by unfold maxLen; omega) (by simp) ?_; intro w2 O2 G2)
  have hw2 : w.heap.size + 1 ≤ w2.heap.size := by have := G2.size; simp at this; omega
  have hO : Own w2 (w.heap.size + 1) (.slice (some ⟨w.heap.size + 1, 0, none⟩) (fN n) (fN n)) (pk (List.replicate (8 * fN n) false)) := by
    rw [pk_zero]
    unfold Own
    rw [List.length_replicate, List.map_replicate]
    have h9 := O2
    rw [show (Value.int IntKind.u8 0).cells = #[.int .u8 0] from rfl, toList_madeCells_one, Nat.mul_one, alloc_size] at h9
    exact h9
  have hw3 : w.heap.size + 1 < w2.heap.size := (hO.lt _ rfl).2
  have BF := Blk.new w2 61 #[.slice (some ⟨w.heap.size + 1, 0, none⟩) (fN n) (fN n)]
  replace BZ := (BZ.grown G2 (by simp)).alloc (.cells #[.slice (some ⟨w.heap.size + 1, 0, none⟩) (fN n) (fN n)] 61)
  replace hO := hO.alloc (.cells #[.slice (some ⟨w.heap.size + 1, 0, none⟩) (fN n) (fN n)] 61)
  replace hB := (Below.grown hB G2 hB.size (by simp)).alloc (Nat.le_trans (Nat.le_succ _) hw2) (.cells #[.slice (some ⟨w.heap.size + 1, 0, none⟩) (fN n) (fN n)] 61)
  clear O2 G2
  generalize w2.alloc (.cells #[.slice (some ⟨w.heap.size + 1, 0, none⟩) (fN n) (fN n)] 61) = W at *
  generalize w2.heap.size = gf at *
  generalize hNN : fN n = N at *
  have hN0 : 0 < N := by rw [← hNN]; unfold fN; omega
  have HNN := Lib.hid hNN
  clear hNN hf1 hi hz0 hz1 hz2
  go_loopw [18] (fun v18 wr => ∃ k : Nat, v18 = .int .i64 k ∧ k ≤ n ∧ Own wr (w.heap.size + 1) (.slice (some ⟨w.heap.size + 1, 0, none⟩) N N) (pk (ofB N (keyRunes (K.take k)))) ∧ Blk wr gf 61 #[.slice (some ⟨w.heap.size + 1, 0, none⟩) N N] ∧ Blk wr w.heap.size 61 #[.slice none 0 0] ∧ Below w.heap.size w wr) (fun v18 _ => n - (intOf v18).toNat)
  case atStart => exact ⟨0, rfl, Nat.zero_le _, hO, BF, BZ, hB⟩
  case round =>
    clear hO BF BZ hB
    obtain ⟨k, rfl, hk, hO, BF, BZ, hB⟩ := hrel
    by_cases hkn : k < n
    · obtain ⟨b, off, rfl, hb, hc⟩ := Reads.form (HR.out.below hB) (by omega)
      have hkl : k < K.length := by have := HL.out; omega
      have q0 := hc k (Value.string K[k]) (by simp [hkl])
      obtain ⟨s, hs⟩ : ∃ s, K[k] = s := ⟨_, rfl⟩
      rw [hs] at q0
      have hnext : ofB N (keyRunes (K.take (k + 1))) = addKey (ofB N (keyRunes (K.take k))) (rest s 0) := by
        rw [List.take_succ_eq_append_getElem hkl, hs]
        unfold ofB keyRunes
        rw [List.map_append, List.foldl_append]
        rfl
      have hml := ofB_len N (keyRunes (K.take k))
      have HNX := Lib.hid hnext
      have hpl := Lib.hid (fun w => filter_places (some ⟨w.heap.size + 1, 0, none⟩) N N s w hN0 hfn)
      have HPL := Lib.hid (fun W => filter_places (some ⟨w.heap.size + 1, 0, none⟩) N N s W hN0 hfn)
      clear hc hs hnext hpl
      have cf := BF.cell
      go_wp2_with fail
      refine (HPL.out wr).mono ?_
      rintro e w3 ⟨rfl, b3⟩
      replace BF := BF.below b3 BF.lt
      replace BZ := BZ.below b3 BZ.lt
      replace hO := hO.below b3
      replace hB := hB.trans (b3.mono hB.size)
      clear b3 cf q0 HPL
      obtain ⟨R, hR⟩ : ∃ R, rest s 0 = R := ⟨_, rfl⟩
      rw [hR] at HNX ⊢
      clear hR
      obtain ⟨m, hm⟩ : ∃ m, ofB N (keyRunes (K.take k)) = m := ⟨_, rfl⟩
      rw [hm] at hO HNX hml
      clear hm
      have hidx : ∀ (j : Nat), j < 4 → ∀ w, (Instr.index 111 (.agg (arrP R (8 * N) 4)) (.int .i64 (j : Int))).run Try.prog w = .ok (.int .i64 ((place R (8 * N) j : Nat) : Int)) w := by
        intro j hj
        match j, hj with
        | 0, _ => exact fun _ => by kernel_rfl
        | 1, _ => exact fun _ => by kernel_rfl
        | 2, _ => exact fun _ => by kernel_rfl
        | 3, _ => exact fun _ => by kernel_rfl
      have HIX := Lib.hid hidx
      clear hidx
      generalize arrP R (8 * N) 4 = arr at *
      go_wp2_with fail
      go_loopw [25] (fun v25 wr => ∃ j : Nat, v25 = .int .i64 j ∧ j ≤ 4 ∧ Own wr (w.heap.size + 1) (.slice (some ⟨w.heap.size + 1, 0, none⟩) N N) (pk (setAll m ((places R m.length).take j))) ∧ Blk wr gf 61 #[.slice (some ⟨w.heap.size + 1, 0, none⟩) N N] ∧ Blk wr w.heap.size 61 #[.slice none 0 0] ∧ Below w.heap.size w wr) (fun v25 _ => 4 - (intOf v25).toNat)
      case atStart => exact ⟨0, rfl, by omega, hO, BF, BZ, hB⟩
      case round =>
        clear hO BF BZ hB
        obtain ⟨j, rfl, hj, hO, BF, BZ, hB⟩ := hrel
        by_cases hj4 : j < 4
        · have hix := HIX.out j hj4
          have hml' := setAll_len ((places R m.length).take j) m
          have hpj : (places R m.length)[j]? = some (place R (8 * N) j) := by
            rw [hml]
            match j, hj4 with
            | 0, _ => rfl
            | 1, _ => rfl
            | 2, _ => rfl
            | 3, _ => rfl
          have hplt := place_lt R (8 * N) j (by omega)
          have hstep : setAll m ((places R m.length).take (j + 1)) = (setAll m ((places R m.length).take j)).set (place R (8 * N) j) true := by
            have hjl : j < (places R m.length).length := hj4
            rw [List.take_succ_eq_append_getElem hjl]
            rw [List.getElem?_eq_getElem hjl] at hpj
            injection hpj with hpj
            rw [hpj]
            unfold setAll
            rw [List.foldl_append]
            rfl
          generalize place R (8 * N) j = p at *
          obtain ⟨m', hm'⟩ : ∃ m', setAll m ((places R m.length).take j) = m' := ⟨_, rfl⟩
          rw [hm'] at hO hstep hml'
          have HSt := Lib.hid hstep
          have hp8 : p / 8 < N := by omega
          have hcell : wr.cell? ⟨w.heap.size + 1, p / 8, none⟩ = some (.int .u8 ((nb m' (p / 8) : Nat) : Int)) := by
            have hpk : p / 8 < (pk m').length := by rw [pk_len]; omega
            have h9 := hO.cell_at (p / 8) hpk
            have h8 := pk_get m' (p / 8) (by omega)
            rw [List.getElem?_eq_getElem hpk] at h8
            injection h8 with h8
            rw [h9, h8, UInt8.toNat_ofNat', Nat.mod_eq_of_lt (nb_lt m' _)]
          have hfro : wr.frozen? ⟨w.heap.size + 1, p / 8, none⟩ = false := hO.frozen rfl _
          have cf := BF.cell
          have z0 : 0 ≤ (p : Int) / 8 := by omega
          have z1 : (p : Int) / 8 < N := by omega
          have z2 : ((p : Int) / 8).toNat = p / 8 := by omega
          clear hstep hm' hpj
          go_upto_region 8 with fail
          go_region
          obtain ⟨ho1, ho2⟩ := bit_or m' p
          rw [ho1]
          obtain ⟨hO', hG'⟩ := hO.set_at (p / 8) (UInt8.ofNat (nb m' (p / 8) ||| 2 ^ (p % 8))) (.int .u8 ((nb m' (p / 8) ||| 2 ^ (p % 8) : Nat) : Int)) (by unfold vb; rw [UInt8.toNat_ofNat', Nat.mod_eq_of_lt ho2])
          rw [← pk_set m' p (by omega)] at hO'
          have hBF' := (BF.grown hG' (by simp; omega)).drew
          have hBZ' := (BZ.grown hG' (by simp)).drew
          have hB' := below_drewN (Below.grown hB hG' hB.size (fun q hq => by injection hq with hq; omega)) 1
          have hO'' := hO'.drewN 1
          clear ho1 ho2
          go_wp2_with fail
          go_roundw
          case rel => exact ⟨j + 1, by go_num, by omega, by rw [HSt.out]; exact hO'', hBF', hBZ', hB'⟩
          case measure => simp [intOf]; omega
        · have hje : j = 4 := by omega
          subst hje
          have htk : (places R m.length).take 4 = places R m.length := rfl
          rw [htk] at hO
          have hO2 : Own wr (w.heap.size + 1) (.slice (some ⟨w.heap.size + 1, 0, none⟩) N N) (pk (ofB N (keyRunes (K.take (k + 1))))) := by
            rw [HNX.out]
            exact hO
          clear hO htk
          go_wp2_with fail
          go_roundw
          case rel => exact ⟨k + 1, by go_num, by omega, hO2, BF, BZ, hB⟩
          case measure => simp [intOf]; omega
    · have hke : k = n := by omega
      subst hke
      rw [List.take_of_length_le (by rw [HL.out]; exact Nat.le_refl _)] at hO
      have cf := BF.cell
      have cz := BZ.cell
      have fz := BZ.frozen
      have zz := (BZ.set_ 0 (.slice (some ⟨w.heap.size + 1, 0, none⟩) N N)).cell
      simp at zz
      have hO2 := (hO.kept (only_set0 wr w.heap.size 0 (.slice (some ⟨w.heap.size + 1, 0, none⟩) N N)) (by right; simp [Value.ownBlock]))
      have HO := Lib.hid hO2
      clear hO hO2
      go_wp2_with fail
      (try simp only [Exit.inBlock, Exit.then])
      refine bodyPost_ret (v := .agg #[.slice (some ⟨w.heap.size + 1, 0, none⟩) N N]) (by simp [results, Try.results39, go_sem, zz]) rfl ⟨_, rfl, ?_, ?_⟩
      · rw [HNN.out]
        exact HO.out.base_le (Nat.le_succ _)
      · exact hB.setCell (p := ⟨w.heap.size, 0, none⟩) (by simp) _
end Go.Proofs.Ytfebncpfhdgkpaa
