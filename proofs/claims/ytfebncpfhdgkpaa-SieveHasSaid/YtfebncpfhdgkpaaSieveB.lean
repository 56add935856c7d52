/- Contract of the reference's bits. The text is at most 2^40 bytes long. -/
import Derived.Test.YtfebncpfhdgkpaaSieveA
import Derived.Test.YtfebncpfhdgkpaaInts
import Derived.Test.YtfebncpfhdgkpaaBytesA
namespace Go.Proofs.Ytfebncpfhdgkpaa
open Go.RowKit Go.Sort

set_option maxRecDepth 100000 in
set_option maxHeartbeats 1000000 in
theorem ref14_bits (s : ByteArray) (n : Nat) (w : World) (hs : s.size ≤ 1000000000) (hn0 : 0 < n) (hn : n < 4294967296) : Calls Try.prog 96 #[.string s, .int .i64 n] w fun e w' =>
    ∃ v', e = .returned v' ∧ OwnI w' w.heap.size v' ((places (rest s 0) n).map fun x : Nat => (x : Int)) ∧ Below w.heap.size w w' := by
  obtain ⟨R, hR⟩ : ∃ R, rest s 0 = R := ⟨_, rfl⟩
  have hRl := rest_length s 0
  have hRle := rest_le s 0
  have hcv := fun (w : World) => run_runes_of_string (P := Try.prog) w 9 134 21 s Try.underlying9 Try.underlying134 Try.underlying21 (by rw [runes_all]; simp; omega)
  rw [runes_all] at hcv
  rw [hR] at hRl hRle hcv ⊢
  simp only [List.size_toArray, List.length_map] at hcv
  clear hR
  go_enter Try.func96, Try.ntmps96
  go_wp2_with fail
  have hW : ∀ (k : Nat) (hk : k < R.length), ((w.alloc (.cells ((R.map fun r : Nat => Value.int .i32 (r : Int)).toArray ++ Array.replicate (grownCap w R.length 0 21 - R.length) (.int .i32 0)) 21)).drew).cell? ⟨w.heap.size, k, none⟩ = some (.int .i32 (R[k] : Int)) := by
    intro k hk
    have h1 := World.cell?_alloc_new w ((R.map fun r : Nat => Value.int .i32 (r : Int)).toArray ++ Array.replicate (grownCap w R.length 0 21 - R.length) (.int .i32 0)) 21 k
    refine h1.trans ?_
    rw [Array.getElem?_append_left (by simpa using hk)]
    simp [hk]
  have hB : Below w.heap.size w ((w.alloc (.cells ((R.map fun r : Nat => Value.int .i32 (r : Int)).toArray ++ Array.replicate (grownCap w R.length 0 21 - R.length) (.int .i32 0)) 21)).drew) := below_drewN ((Below.refl _ _).alloc (Nat.le_refl _) _) 1
  generalize ((w.alloc (.cells ((R.map fun r : Nat => Value.int .i32 (r : Int)).toArray ++ Array.replicate (grownCap w R.length 0 21 - R.length) (.int .i32 0)) 21)).drew) = W at *
  generalize grownCap w R.length 0 21 = cap at *
  have HW := Lib.hid hW
  have HRle := Lib.hid hRle
  clear hW hRle hcv
  go_loop [5, 6, 8] (fun v5 v6 v8 => ∃ (k a b : Nat), v8 = .int .i64 k ∧ k ≤ R.length ∧ v5 = .int .u32 (a : Int) ∧ v6 = .int .u32 (b : Int) ∧ a < 4294967296 ∧ b < 4294967296 ∧ a = (R.take k).foldl hA 2166136261 ∧ b = (R.take k).foldl hBB 5381) (fun _ _ v8 => R.length - (intOf v8).toNat)
  case atStart => exact ⟨0, 2166136261, 5381, rfl, Nat.zero_le _, rfl, rfl, by omega, by omega, rfl, rfl⟩
  case round =>
    obtain ⟨k, a, b, rfl, hk, rfl, rfl, ha, hb, fA, fB⟩ := hrel
    have FA := Lib.hid fA
    have FB := Lib.hid fB
    clear fA fB
    by_cases hkl : k < R.length
    · have q0 := HW.out k hkl
      have hr : R[k] ≤ 2147483647 := HRle.out _ (List.getElem_mem hkl)
      obtain ⟨r, hre⟩ : ∃ r, R[k] = r := ⟨_, rfl⟩
      rw [hre] at q0 hr
      have hta : (R.take (k + 1)).foldl hA 2166136261 = hA a r := by rw [List.take_succ_eq_append_getElem hkl, List.foldl_append, ← FA.out, hre, List.foldl_cons, List.foldl_nil]
      have htb : (R.take (k + 1)).foldl hBB 5381 = hBB b r := by rw [List.take_succ_eq_append_getElem hkl, List.foldl_append, ← FB.out, hre, List.foldl_cons, List.foldl_nil]
      have hx : bits .xor .u32 (a : Int) (r : Int) = ((a ^^^ r : Nat) : Int) := u32_xor_nat a r ha (by omega)
      have va : bits .xor .u32 (a : Int) (r : Int) * 16777619 % 4294967296 = ((hA a r : Nat) : Int) := by rw [hx]; unfold hA; omega
      have vb' : (33 * (b : Int) % 4294967296 + (r : Int)) % 4294967296 = ((hBB b r : Nat) : Int) := by unfold hBB; omega
      have la : hA a r < 4294967296 := Nat.mod_lt _ (by decide)
      have lb : hBB b r < 4294967296 := Nat.mod_lt _ (by decide)
      have HA := Lib.hid va
      have HB := Lib.hid vb'
      have HTA := Lib.hid hta
      have HTB := Lib.hid htb
      clear hx va vb' hta htb hre
      go_wp2_with fail
      go_round
      case rel => exact ⟨k + 1, hA a r, hBB b r, by go_num, by omega, by rw [HA.out], by rw [HB.out], la, lb, HTA.out.symm, HTB.out.symm⟩
      case measure => simp [intOf]; omega
    · have hke : k = R.length := by omega
      have sA : sumA R = a ^^^ (a / 8192) := by
        have := FA.out
        rw [hke, List.take_length] at this
        unfold sumA
        rw [← this]
      have sB : sumB R = if b % 2 = 0 then b + 1 else b := by
        have := FB.out
        rw [hke, List.take_length] at this
        unfold sumB
        rw [← this, or_one]
      have hxa : bits .xor .u32 (a : Int) ((a : Int) / 8192) = ((sumA R : Nat) : Int) := by
        have h2 := u32_xor_nat a (a / 8192) ha (by omega)
        have h3 : (((a / 8192 : Nat)) : Int) = (a : Int) / 8192 := by omega
        rw [← h3, h2, sA]
      have lA := sumA_lt R
      have lB := sumB_lt R
      have hplace : ∀ j : Nat, wrap64 ((((sumA R : Nat) : Int) + (j : Int) * ((sumB R : Nat) : Int)) % 4294967296 % (n : Int)) = ((place R n j : Nat) : Int) := by
        intro j
        have h1 := place_lt R n j hn0
        have h2 : (((sumA R : Nat) : Int) + (j : Int) * ((sumB R : Nat) : Int)) % 4294967296 % (n : Int) = ((place R n j : Nat) : Int) := by unfold place; simp
        rw [h2]
        have h3 := IntKind.wrap_i64 ((place R n j : Nat) : Int)
        unfold wrap64
        omega
      have HPl := Lib.hid hplace
      have hcase : (((b : Int) % 2 == 0) = true ∧ ((b : Int) + 1) % 4294967296 = ((sumB R : Nat) : Int)) ∨ (((b : Int) % 2 == 0) = false ∧ (b : Int) = ((sumB R : Nat) : Int)) := by
        rw [sB]
        by_cases hev : b % 2 = 0
        · left
          rw [if_pos hev]
          exact ⟨by simp; omega, by omega⟩
        · right
          rw [if_neg hev]
          exact ⟨by simp; omega, rfl⟩
      have HXA := Lib.hid hxa
      clear hxa hplace sA sB
      rcases hcase with ⟨hb2, hbb⟩ | ⟨hb2, hbb⟩
      all_goals
        have HBB := Lib.hid hbb
        clear hbb hke HRle HW
        go_wp2_with fail
        rw [HXA.out, HBB.out]
        obtain ⟨xa, hxa⟩ : ∃ x, sumA R = x := ⟨_, rfl⟩
        obtain ⟨xb, hxb⟩ : ∃ x, sumB R = x := ⟨_, rfl⟩
        rw [hxa] at lA HPl ⊢
        rw [hxb] at lB HPl ⊢
        clear hxa hxb HXA HBB
        go_loopw [9, 10] (fun v9 v10 wr => ∃ j : Nat, v10 = .int .i64 j ∧ j ≤ 4 ∧ OwnI wr w.heap.size v9 (((places R n).take j).map fun x : Nat => (x : Int)) ∧ Below w.heap.size w wr) (fun _ v10 _ => 4 - (intOf v10).toNat)
        case atStart => exact ⟨0, rfl, by omega, OwnI.nil_ _ _, hB⟩
        case round =>
          clear hB
          obtain ⟨j, rfl, hj, OV, hB⟩ := hrel
          have hbw := hB.size
          by_cases hj4 : j < 4
          · have hp := HPl.out j
            have hpl : j < (places R n).length := hj4
            have htk : ((places R n).take (j + 1)).map (fun x : Nat => (x : Int)) = ((places R n).take j).map (fun x : Nat => (x : Int)) ++ [((place R n j : Nat) : Int)] := by
              rw [List.take_succ_eq_append_getElem hpl, List.map_append]
              congr 1
              match j, hj4 with
              | 0, _ => rfl
              | 1, _ => rfl
              | 2, _ => rfl
              | 3, _ => rfl
            have hl5 : (((places R n).take j).map fun x : Nat => (x : Int)).length ≤ 1000000000 := by simp; omega
            have HP := Lib.hid hp
            have HT := Lib.hid htk
            clear hp htk
            obtain ⟨S, hS⟩ : ∃ S, ((places R n).take j).map (fun x : Nat => (x : Int)) = S := ⟨_, rfl⟩
            rw [hS] at OV hl5 HT
            clear hS
            go_wp2_with (at_builtin; refine append_int wr (wrap64 (((xa : Int) + (j : Int) * (xb : Int)) % 4294967296 % (n : Int))) _ rfl _ _ rfl w.heap.size _ S rfl OV rfl hl5 hbw ?_; intro v6 w6 R6 g6 L6)
            have hB6 := below_own hB hB.size OV (Nat.le_refl _) g6
            rw [HP.out] at R6
            go_roundw
            case rel => exact ⟨j + 1, by go_num, by omega, by rw [HT.out]; exact R6, hB6⟩
            case measure => simp [intOf]; omega
          · have hje : j = 4 := by omega
            subst hje
            go_wp2_with fail
            go_ret
            exact ⟨_, rfl, OV, hB⟩
end Go.Proofs.Ytfebncpfhdgkpaa
