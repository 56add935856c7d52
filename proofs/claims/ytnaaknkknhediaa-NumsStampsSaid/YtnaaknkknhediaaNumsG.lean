/- Contracts of the reference's parts and ReadStamp. The text is at most 10^6 bytes long. -/
import Derived.Test.YtnaaknkknhediaaNumsF
import Derived.BigRegion
namespace Go.Proofs.Ytnaaknkknhediaa
open Go.RowKit Go.Sort

def PartsRel (w : World) (s : ByteArray) (v3 v4 : Value) (wr : World) : Prop :=
  ∃ k : Nat, v4 = .int .i64 k ∧ k ≤ s.size ∧ OwnS wr w.heap.size v3 (parts ((bl s).take k)) ∧ Below w.heap.size w wr

set_option maxRecDepth 100000 in
set_option maxHeartbeats 1000000 in
theorem ref02_parts (s : ByteArray) (w : World) (hs : s.size ≤ 1000000) :
    Calls Try.prog 76 #[.string s] w fun e w' => ∃ v', e = .returned v' ∧ OwnS w' w.heap.size v' (parts (bl s)) ∧ Below w.heap.size w w' := by
  have hcut := fun (w : World) (k : Nat) (hk : k < s.size) => cut_one (P := Try.prog) 9 Try.underlying9 s k hk w
  have HCUT := Lib.hid hcut
  clear hcut
  go_enter Try.func76, Try.ntmps76
  go_wp2_with fail
  have O0 : OwnS (w.alloc (.cells #[.string ⟨#[]⟩] 9)) w.heap.size (.slice (some ⟨w.heap.size, 0, none⟩) 1 1) (parts ((bl s).take 0)) := World.ownsRow_lit w #[.string ⟨#[]⟩] 1 (Nat.le_refl _) (by decide) rfl
  have hB : Below w.heap.size w (w.alloc (.cells #[.string ⟨#[]⟩] 9)) := (Below.refl _ _).alloc (Nat.le_refl _) _
  go_loopw [3, 4] (fun v3 v4 wr => PartsRel w s v3 v4 wr) (fun _ v4 _ => s.size - (intOf v4).toNat)
  case atStart => exact ⟨0, rfl, Nat.zero_le _, O0, hB⟩
  case round =>
    clear O0 hB
    obtain ⟨k, rfl, hk, OV, hB⟩ := hrel
    by_cases hks : k < s.size
    · have hkb : k < (bl s).length := by rw [bl_length]; exact hks
      have hbk : (bl s)[k]'hkb = (s[k]'hks) := rfl
      obtain ⟨hps, hpl⟩ := parts_size ((bl s).take k)
      have htk : ((bl s).take k).length ≤ k := by rw [List.length_take]; omega
      have hbw := hB.size
      by_cases hc : (s[k]'hks) = 46
      · have hp : parts ((bl s).take (k + 1)) = parts ((bl s).take k) ++ [[]] := by
          rw [List.take_succ_eq_append_getElem hkb, parts_snoc, hbk]
          unfold pStep
          rw [if_pos hc]
        have hb46 : ((((s[k]'hks).toNat : Nat) : Int) == 46) = true := by rw [hc]; rfl
        have HP := Lib.hid hp
        obtain ⟨P, hPe⟩ : ∃ P, parts ((bl s).take k) = P := ⟨_, rfl⟩
        rw [hPe] at OV hpl HP
        have hP9 : P.length ≤ 1000000000 := by omega
        clear hp hps hc hPe hbk
        obtain ⟨A3, c3, rfl, _, _, _⟩ := own_form OV
        go_wp2_with (at_builtin; refine append_str wr [] _ rfl _ rfl _ _ rfl w.heap.size _ P rfl OV rfl hP9 hbw ?_; intro v6 w6 R6 g6 L6)
        have hB6 := below_own hB hB.size OV (Nat.le_refl _) g6
        go_roundw
        case rel => exact ⟨k + 1, by go_num, by omega, by rw [HP.out]; exact R6, hB6⟩
        case measure => simp [intOf]; omega
      · obtain ⟨R, p, hRe, hnx⟩ := parts_last ((bl s).take k)
        have hp : parts ((bl s).take (k + 1)) = R ++ [p ++ [(s[k]'hks)]] := by
          rw [List.take_succ_eq_append_getElem hkb, hbk]
          exact hnx _ hc
        have hb46 : ((((s[k]'hks).toNat : Nat) : Int) == 46) = false := by
          simp
          intro h
          exact hc (UInt8.toNat_inj.1 (by rw [show (46 : UInt8).toNat = 46 from rfl]; omega))
        have hpk : p.length ≤ 1000000 := by have := hps p (by rw [hRe]; simp); omega
        rw [hRe] at OV hpl
        have hct := HCUT.out
        have hcw := fun w => hct w k hks
        obtain ⟨m, hm⟩ : ∃ m, R.length = m := ⟨_, rfl⟩
        have hl1 : (R ++ [p]).length = m + 1 := by simp [hm]
        obtain ⟨A3, c3, rfl, _, _, hF⟩ := own_form OV
        obtain ⟨g, rfl, hg1, hg2, _⟩ := hF (by omega)
        have RO : wr.ownsRow w.heap.size 9 1 (.slice (some ⟨g, 0, none⟩) (m + 1) c3) (m + 1) ((R ++ [p]).map sv) := by
          have h9 := OV
          unfold OwnS at h9
          rw [hl1] at h9
          exact h9
        have hcell := World.ownsRow.cellAt RO m (by omega)
        have hz : ((R ++ [p]).map sv)[m]? = some (.string ⟨p.toArray⟩) := by simp [← hm, sv]
        rw [hz] at hcell
        have hfro := World.ownsRow.frozenAt RO m
        have hst := World.ownsRow.stored RO m (sv (p ++ [s[k]'hks]))
        have hset : ((R ++ [p]).map sv).set m (sv (p ++ [s[k]'hks])) = (R ++ [p ++ [s[k]'hks]]).map sv := by
          rw [List.map_append, List.set_append_right _ _ (by simp [hm])]
          simp [hm]
        rw [hset] at hst
        have hl2 : (R ++ [p ++ [s[k]'hks]]).length = m + 1 := by simp [hm]
        have HST := Lib.hid hst
        have HL2 := Lib.hid hl2
        have HP := Lib.hid hp
        have hmk : m ≤ 1000000 := by rw [hl1] at hpl; omega
        have hwm : IntKind.i64.wrap (m : Int) = (m : Int) := by rw [IntKind.wrap_i64]; omega
        have hwm2 : ((m : Int)).toNat = m := by omega
        rw [hl1]
        clear hst hl2 hm hl1 hp hRe hnx RO hz hset OV hct hps hc hbk hF
        go_upto_region 7 with fail
        go_region
        go_wp2_with fail
        go_roundw
        case rel => exact ⟨k + 1, by go_num, by omega, by unfold OwnS; rw [HP.out, HL2.out, ByteArray.mk_append_mk]; exact HST.out.1, by rw [ByteArray.mk_append_mk]; exact below_drewN (Below.grown hB HST.out.2 hB.size (fun q hq => by injection hq with hq; omega)) 1⟩
        case measure => simp [intOf]; omega
    · have hks' : k = s.size := by omega
      rw [List.take_of_length_le (by rw [bl_length]; omega)] at OV
      obtain ⟨P, hPe⟩ : ∃ P, parts (bl s) = P := ⟨_, rfl⟩
      rw [hPe] at OV
      have HP := Lib.hid hPe
      clear hPe
      go_wp2_with fail
      go_ret
      exact ⟨_, rfl, by rw [HP.out]; exact OV, hB⟩
end Go.Proofs.Ytnaaknkknhediaa
