/- Contracts of verse.number, Log, Table, Base, Fresh, and of the reference's Name. -/
import Derived.Test.YtedegdojbhegdaaVerA
import Derived.Test.YtedegdojbhegdaaPlainB
import Derived.Test.YtedegdojbhegdaaStrOf
import Derived.Test.YtedegdojbhegdaaKeep
namespace Go.Proofs.Ytedegdojbhegdaa
open Go.RowKit Go.Sort

/-- A number in decimal digits, as a text; below 0: that of 0. -/
def numS (n : Int) : ByteArray := ⟨(dec n.toNat).toArray⟩
theorem numS_len (n : Int) (h : n ≤ 9223372036854775807) : (dec n.toNat).length ≤ 19 := dec_length_le 18 n.toNat (by omega)
theorem dec_step (m : Nat) (l : List UInt8) : (if m < 10 then [dig m] ++ l else dec (m / 10) ++ ([dig m] ++ l)) = dec m ++ l := by
  split
  · rename_i h; rw [dec_lo m h]
  · rename_i h; rw [dec_hi m h]; simp
theorem len_tail {a b D : List UInt8} (h : a ++ b = D) : b.length ≤ D.length := by
  rw [← h, List.length_append]
  omega
theorem dig_vb (m : Nat) : Value.int .u8 (48 + (m : Int) % 10) = vb (dig m) := by
  unfold vb
  rw [dig_toNat]
  congr 1
theorem one_str (w : World) (x : UInt8) (u : Value) (hu : u = vb x) : (convert 37 9 (.slice (some ⟨w.heap.size, 0, none⟩) 1 1)).run Try.prog (w.alloc (.cells #[u] 5)) = .ok (.string ⟨#[x]⟩) (w.alloc (.cells #[u] 5)) :=
  run_string_of _ _ _ 1 1 [x] (reads_one w 5 x u hu)

set_option maxRecDepth 100000 in
set_option maxHeartbeats 1000000 in
theorem verse_number (n : Int) (hn : n ≤ 9223372036854775807) (hn2 : -9223372036854775808 ≤ n) (w : World) : Calls Try.prog 64 #[.int .i64 n] w fun e w' => e = .returned (.string (numS n)) ∧ Below w.heap.size w w' := by
  by_cases h0 : n < 0
  · have hm : max n 0 = 0 := by omega
    have h1 := one_str w (dig 0) (.int .u8 48) rfl
    have hB : Below w.heap.size w (w.alloc (.cells #[.int .u8 48] 5)) := (Below.refl _ _).alloc (Nat.le_refl _) _
    have hR : Hid (numS n = ⟨#[dig 0]⟩) := Lib.hid (by unfold numS; rw [show n.toNat = 0 by omega, dec_lo 0 (by decide)])
    have ht : n.tdiv 10 ≤ 0 := by
      have h9 : n = -(((-n).toNat : Nat) : Int) := by omega
      rw [h9, Int.neg_tdiv, Int.tdiv_eq_ediv_of_nonneg (by omega)]
      omega
    have hd : decide (0 < n.tdiv 10) = false := by simp; omega
    have hcat : Hid ((⟨#[dig 0]⟩ : ByteArray) ++ ⟨#[]⟩ = ⟨#[dig 0]⟩) := Lib.hid (by apply ByteArray.ext; simp [ByteArray.data_append])
    clear ht
    go_enter Try.func64, Try.ntmps64
    go_wp2_with fail
    refine wp_loop_rounds 2 ?_
    rw [rounds_succ]
    go_wp2_with fail
    rw [rounds_succ]
    go_wp2_with fail
    go_ret
    exact ⟨by rw [hR.out, ← hcat.out]; rfl, hB⟩
  · obtain ⟨N, hN⟩ : ∃ N : Nat, n = N := ⟨n.toNat, by omega⟩
    subst hN
    have HR : Hid (numS (N : Int) = ⟨(dec N).toArray⟩) := Lib.hid (by unfold numS; rw [Int.toNat_natCast])
    have hDl := numS_len (N : Int) hn
    rw [Int.toNat_natCast] at hDl
    obtain ⟨D, hD⟩ : ∃ D, dec N = D := ⟨_, rfl⟩
    rw [hD] at hDl HR
    have HD := Lib.hid hD
    clear hD h0 hn2
    go_enter Try.func64, Try.ntmps64
    go_wp2_with fail
    go_loopw [0, 3, 4] (fun v0 v3 v4 wr => ∃ (m : Nat) (l : List UInt8) (b : Bool), v0 = .int .i64 m ∧ v3 = .string ⟨l.toArray⟩ ∧ v4 = .bool b ∧ m ≤ N ∧ l.length ≤ D.length ∧ (b = true → dec m ++ l = D) ∧ (b = false → l = D) ∧ Below w.heap.size w wr) (fun v0 _ v4 _ => match v4 with | .bool true => (RowKit.intOf v0).toNat + 1 | _ => 0)
    case atStart => exact ⟨N, [], true, rfl, rfl, rfl, Nat.le_refl _, Nat.zero_le _, fun _ => by rw [HD.out, List.append_nil], (fun h => by cases h), Below.refl _ _⟩
    case round =>
      obtain ⟨m, l, b, rfl, rfl, rfl, hmN, hll, h1, h2, hB⟩ := hrel
      have H1 := Lib.hid h1
      have H2 := Lib.hid h2
      clear h1 h2
      cases b
      · have HE := Lib.hid (H2.out rfl)
        go_wp2_with fail
        go_ret
        exact ⟨by rw [HR.out, ← HE.out]; rfl, hB⟩
      · have HE := Lib.hid (H1.out rfl)
        have hmax : max (m : Int) 0 = m := by omega
        have hone := one_str wr (dig m) (.int .u8 (48 + (m : Int) % 10)) (dig_vb m)
        have hstep := dec_step m l
        rw [HE.out] at hstep
        have HS := Lib.hid hstep
        have hcat : Hid ((⟨#[dig m]⟩ : ByteArray) ++ ⟨l.toArray⟩ = ⟨([dig m] ++ l).toArray⟩) := Lib.hid (by apply ByteArray.ext; simp [ByteArray.data_append])
        have hBa := hB.alloc hB.size (.cells #[.int .u8 (48 + (m : Int) % 10)] 5)
        clear hstep
        by_cases hq : m < 10
        · have hd : decide (0 < (m : Int) / 10) = false := by simp; omega
          have hf := HS.out
          rw [if_pos hq] at hf
          have HF := Lib.hid hf
          have hlen : ([dig m] ++ l).length ≤ D.length := by rw [hf]; exact Nat.le_refl _
          have HLN := Lib.hid hlen
          clear hq hf hlen
          go_wp2_with fail
          go_roundw
          case rel => exact ⟨m / 10, [dig m] ++ l, false, by go_num, by rw [hcat.out], rfl, by omega, HLN.out, (fun h => by cases h), fun _ => HF.out, hBa⟩
          case measure => simp [RowKit.intOf]
        · have hd : decide (0 < (m : Int) / 10) = true := by simp; omega
          have hf := HS.out
          rw [if_neg hq] at hf
          have HF := Lib.hid hf
          have HLN := Lib.hid (len_tail hf)
          clear hf
          have hq2 : 10 ≤ m := by omega
          clear hq
          go_wp2_with fail
          go_roundw
          case rel => exact ⟨m / 10, [dig m] ++ l, true, by go_num, by rw [hcat.out], rfl, by omega, HLN.out, fun _ => HF.out, (fun h => by cases h), hBa⟩
          case measure => simp [RowKit.intOf]; omega

/-- A file's name: what it begins with, '-', a word, '-', a number. -/
def fname (pre word : ByteArray) (n : Int) : ByteArray := (((pre ++ ⟨#[45]⟩) ++ word) ++ ⟨#[45]⟩) ++ numS n
theorem str_ext {a b : ByteArray} (h : a.data.toList = b.data.toList) : a = b := by
  apply ByteArray.ext
  exact Array.toList_inj.1 h
theorem fname_log (pre : ByteArray) (n : Int) : (pre ++ ⟨#[45, 108, 111, 103, 45]⟩) ++ numS n = fname pre ⟨#[108, 111, 103]⟩ n := by
  apply str_ext
  simp [fname, ByteArray.data_append]
theorem fname_tab (pre : ByteArray) (n : Int) : (pre ++ ⟨#[45, 116, 97, 98, 45]⟩) ++ numS n = fname pre ⟨#[116, 97, 98]⟩ n := by
  apply str_ext
  simp [fname, ByteArray.data_append]

set_option maxRecDepth 100000 in
theorem verse_Log (pre : ByteArray) (hp : pre.size ≤ 1000000) (n : Int) (hn : n ≤ 9223372036854775807) (hn2 : -9223372036854775808 ≤ n) (w : World) : Calls Try.prog 29 #[.string pre, .int .i64 n] w fun e w' => e = .returned (.string (fname pre ⟨#[108, 111, 103]⟩ n)) ∧ Below w.heap.size w w' := by
  have hl := numS_len n hn
  have HF := Lib.hid (fname_log pre n)
  have hs : (numS n).size ≤ 19 := by unfold numS; show (dec n.toNat).toArray.size ≤ 19; simpa using hl
  have HN := Lib.hid (verse_number n hn hn2 w)
  obtain ⟨S, hS⟩ : ∃ S, numS n = S := ⟨_, rfl⟩
  rw [hS] at HF hs HN
  clear hS
  go_enter Try.func29, Try.ntmps29
  go_wp2_with fail
  refine HN.out.mono ?_
  rintro e w1 ⟨rfl, b1⟩
  go_wp2_with fail
  go_ret
  exact ⟨by rw [← HF.out]; rfl, b1⟩
set_option maxRecDepth 100000 in
theorem verse_Table (pre : ByteArray) (hp : pre.size ≤ 1000000) (n : Int) (hn : n ≤ 9223372036854775807) (hn2 : -9223372036854775808 ≤ n) (w : World) : Calls Try.prog 30 #[.string pre, .int .i64 n] w fun e w' => e = .returned (.string (fname pre ⟨#[116, 97, 98]⟩ n)) ∧ Below w.heap.size w w' := by
  have hl := numS_len n hn
  have HF := Lib.hid (fname_tab pre n)
  have hs : (numS n).size ≤ 19 := by unfold numS; show (dec n.toNat).toArray.size ≤ 19; simpa using hl
  have HN := Lib.hid (verse_number n hn hn2 w)
  obtain ⟨S, hS⟩ : ∃ S, numS n = S := ⟨_, rfl⟩
  rw [hS] at HF hs HN
  clear hS
  go_enter Try.func30, Try.ntmps30
  go_wp2_with fail
  refine HN.out.mono ?_
  rintro e w1 ⟨rfl, b1⟩
  go_wp2_with fail
  go_ret
  exact ⟨by rw [← HF.out]; rfl, b1⟩
set_option maxRecDepth 100000 in
theorem verse_Base (pre : ByteArray) (hp : pre.size ≤ 1000000) (w : World) : Calls Try.prog 31 #[.string pre] w fun e w' => e = .returned (.string (pre ++ ⟨#[45, 98, 97, 115, 101]⟩)) ∧ w = w' := by
  go_enter Try.func31, Try.ntmps31
  go_wp2_with fail
  go_ret
  exact ⟨rfl, rfl⟩
set_option maxRecDepth 100000 in
theorem verse_Fresh (pre : ByteArray) (hp : pre.size ≤ 1000000) (w : World) : Calls Try.prog 32 #[.string pre] w fun e w' => e = .returned (.string (pre ++ ⟨#[45, 102, 114, 101, 115, 104]⟩)) ∧ w = w' := by
  go_enter Try.func32, Try.ntmps32
  go_wp2_with fail
  go_ret
  exact ⟨rfl, rfl⟩

set_option maxRecDepth 100000 in
set_option maxHeartbeats 1000000 in
theorem ref17_Name (pre word : ByteArray) (hp : pre.size ≤ 1000000) (hw : word.size ≤ 1000000) (n : Int) (hn : n ≤ 9223372036854775807) (w : World) : Calls Try.prog 26 #[.string pre, .string word, .int .i64 n] w fun e w' => e = .returned (.string (fname pre word n)) ∧ Below w.heap.size w w' := by
  obtain ⟨N, hN⟩ : ∃ N : Nat, n.toNat = N := ⟨_, rfl⟩
  have HR : Hid (fname pre word n = (((pre ++ ⟨#[45]⟩) ++ word) ++ ⟨#[45]⟩) ++ ⟨(dec N).toArray⟩) := Lib.hid (by unfold fname numS; rw [hN])
  have hDl := numS_len n hn
  rw [hN] at hDl
  have hNb : N ≤ 9223372036854775807 := by omega
  obtain ⟨D, hD⟩ : ∃ D, dec N = D := ⟨_, rfl⟩
  rw [hD] at hDl HR
  have hD1 : 1 ≤ D.length := by rw [← hD]; exact dec_length_pos N
  have HD := Lib.hid hD
  have HD1 := Lib.hid hD1
  have hcase : (decide (n < 0) = true ∧ N = 0) ∨ (decide (n < 0) = false ∧ n = N) := by
    rcases Int.lt_or_le n 0 with h | h
    · exact .inl ⟨by simpa using h, by omega⟩
    · exact .inr ⟨by simp; omega, by omega⟩
  clear hD hN hn hD1
  rcases hcase with ⟨h1, hN0⟩ | ⟨h1, hn0⟩
  case' inl =>
    have HN0 := Lib.hid hN0
    clear hN0
  case' inr => subst hn0
  all_goals
    go_enter Try.func26, Try.ntmps26
    go_wp2_with fail
    clear h1
    go_loopw [2, 7] (fun v2 v7 wr => ∃ (m : Nat) (l : List UInt8), v2 = .int .i64 m ∧ v7 = .string ⟨l.toArray⟩ ∧ m ≤ 9223372036854775807 ∧ l.length ≤ D.length ∧ ((l = [] ∨ 0 < m) → dec m ++ l = D) ∧ (l ≠ [] → m = 0 → l = D) ∧ Below w.heap.size w wr) (fun v2 v7 _ => (RowKit.intOf v2).toNat + (match v7 with | .string s => if s.size = 0 then 1 else 0 | _ => 0))
    case atStart =>
      first
        | exact ⟨N, [], rfl, rfl, hNb, Nat.zero_le _, fun _ => by rw [HD.out, List.append_nil], fun h => absurd rfl h, Below.refl _ _⟩
        | exact ⟨N, [], by rw [HN0.out]; rfl, rfl, hNb, Nat.zero_le _, fun _ => by rw [HD.out, List.append_nil], fun h => absurd rfl h, Below.refl _ _⟩
    case round =>
      obtain ⟨m, l, rfl, rfl, hmN, hll, h1, h2, hB⟩ := hrel
      have H1 := Lib.hid h1
      have H2 := Lib.hid h2
      clear h1 h2
      by_cases hgo : l = [] ∨ 0 < m
      · have HE := Lib.hid (H1.out hgo)
        have HGO := Lib.hid hgo
        have hone := one_str wr (dig m) (.int .u8 (48 + (m : Int) % 10)) (dig_vb m)
        have hstep := dec_step m l
        rw [HE.out] at hstep
        have HS := Lib.hid hstep
        have hcat : Hid ((⟨#[dig m]⟩ : ByteArray) ++ ⟨l.toArray⟩ = ⟨([dig m] ++ l).toArray⟩) := Lib.hid (by apply ByteArray.ext; simp [ByteArray.data_append])
        have hBa := hB.alloc hB.size (.cells #[.int .u8 (48 + (m : Int) % 10)] 5)
        have HM : Hid ((if (⟨([dig m] ++ l).toArray⟩ : ByteArray).size = 0 then 1 else 0) = 0) := Lib.hid (by rw [if_neg (by show ¬ ([dig m] ++ l).toArray.size = 0; simp)])
        clear hstep
        by_cases hq : m < 10
        case' pos =>
          have hf := HS.out
          rw [if_pos hq] at hf
          have HF := Lib.hid hf
          have HLN : Hid (([dig m] ++ l).length ≤ D.length) := Lib.hid (by rw [hf]; exact Nat.le_refl _)
          have HREL : Hid ((([dig m] ++ l = [] ∨ 0 < m / 10) → dec (m / 10) ++ ([dig m] ++ l) = D) ∧ ([dig m] ++ l ≠ [] → m / 10 = 0 → [dig m] ++ l = D)) := Lib.hid ⟨fun h => by
            rcases h with h | h
            · cases h
            · omega, fun _ _ => HF.out⟩
        case' neg =>
          have hf := HS.out
          rw [if_neg hq] at hf
          have HF := Lib.hid hf
          have HLN := Lib.hid (len_tail hf)
          have HREL : Hid ((([dig m] ++ l = [] ∨ 0 < m / 10) → dec (m / 10) ++ ([dig m] ++ l) = D) ∧ ([dig m] ++ l ≠ [] → m / 10 = 0 → [dig m] ++ l = D)) := Lib.hid ⟨fun _ => HF.out, fun _ h0 => by omega⟩
        all_goals
          have HME : Hid (m / 10 < m + (if (⟨l.toArray⟩ : ByteArray).size = 0 then 1 else 0)) := Lib.hid (by
            rcases HGO.out with h | h
            · rw [if_pos (by rw [h]; rfl)]
              omega
            · split <;> omega)
          clear hf hq
          rcases hgo with hgo | hgo
          case' inl =>
            have e1 : l.isEmpty = true := by rw [hgo]; rfl
            have e2 : (l = []) = True := by simp [hgo]
            clear hgo
          case' inr =>
            have hdm : decide (0 < (m : Int)) = true := by simp; omega
            have hdm2 : decide (0 < m) = true := by simp; omega
            cases hle : l.isEmpty
          all_goals
            go_wp2_with fail
            go_roundw
            case rel => exact ⟨m / 10, [dig m] ++ l, by go_num, by rw [hcat.out], by omega, HLN.out, HREL.out.1, HREL.out.2, hBa⟩
            case measure =>
              have h9 := HME.out
              simp only [RowKit.intOf]
              rw [hcat.out, HM.out]
              omega
      · have hln : l ≠ [] := fun h => hgo (.inl h)
        have hm0 : m = 0 := by
          rcases Nat.eq_zero_or_pos m with h | h
          · exact h
          · exact absurd (.inr h) hgo
        have HE := Lib.hid (H2.out hln hm0)
        have e1 : l.isEmpty = false := by cases l with | nil => exact absurd rfl hln | cons _ _ => rfl
        have e2 : (l = []) = False := by simp [hln]
        have e3 : (0 < m) = False := by simp [hm0]
        clear hgo hln hm0
        go_wp2_with fail
        go_ret
        exact ⟨by rw [HR.out, ← HE.out]; rfl, hB⟩
end Go.Proofs.Ytedegdojbhegdaa
