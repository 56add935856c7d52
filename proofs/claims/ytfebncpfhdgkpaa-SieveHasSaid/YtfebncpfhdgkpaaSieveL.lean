/- Contract of sieve.Get: the bytes that the reader's Text tells. -/
import Derived.Test.YtfebncpfhdgkpaaRdrT
import Derived.Test.YtfebncpfhdgkpaaSieveE
namespace Go.Proofs.Ytfebncpfhdgkpaa
open Go.RowKit Go.Sort

/-- What Get hands back: the filter's bytes, and the reader as its Text leaves it. -/
def SGetTo (w : World) (g : Nat) (A : Option Addr) (n c : Nat) (L : List UInt8) (v : List UInt8) (k : Nat) (why : Int) (e : Ending) (w' : World) : Prop :=
  ∃ B m', e = .returned (.agg #[.slice B v.length m']) ∧ Reads w' w'.heap.size 1 B v.length (v.map vb) ∧ Rd w' g A n c L k why ∧ w.grownBy w' (some g)

theorem rText_bad (l : List UInt8) (most why : Int) (h : (rText l most why).2.2 ≠ 0) : (rText l most why).1 = [] := by
  unfold rText at h ⊢
  split
  · rfl
  · split
    · rfl
    · split
      · rfl
      · simp_all
/-- The new row of '[]byte(text)', and nothing else turned. -/
theorem bytes_new (w : World) (s : List UInt8) (cap : Nat) (fr : Nat × Nat) (q : Nat) (u0 : Value) (hq : q < w.heap.size) :
    Reads ((w.drew.alloc (.cells (bytesRow ⟨s.toArray⟩ cap) 5 fr)).setCell ⟨q, 0, none⟩ u0) ((w.drew.alloc (.cells (bytesRow ⟨s.toArray⟩ cap) 5 fr)).setCell ⟨q, 0, none⟩ u0).heap.size 1 (some ⟨w.heap.size, 0, none⟩) s.length (s.map vb) := by
  have h0 : (w.drew.alloc (.cells (bytesRow ⟨s.toArray⟩ cap) 5 fr)).heap[w.heap.size]? = some (.cells (bytesRow ⟨s.toArray⟩ cap) 5 fr) := heap_alloc_new w.drew _
  have h1 := (Below.heap_setCell (w.drew.alloc (.cells (bytesRow ⟨s.toArray⟩ cap) 5 fr)) ⟨q, 0, none⟩ u0 w.heap.size (by show w.heap.size ≠ q; omega)).trans h0
  generalize (w.drew.alloc (.cells (bytesRow ⟨s.toArray⟩ cap) 5 fr)).setCell ⟨q, 0, none⟩ u0 = W at h1 ⊢
  have hlt : w.heap.size < W.heap.size := by
    rcases Nat.lt_or_ge w.heap.size W.heap.size with h | h
    · exact h
    · rw [Array.getElem?_eq_none h] at h1; cases h1
  refine ⟨by simp, fun _ => ⟨_, rfl, hlt, ?_⟩⟩
  intro j u hu
  obtain ⟨z, hz1, hz2⟩ := (List.getElem?_map (f := vb) (l := s) (i := j)) ▸ hu |> Option.map_eq_some_iff.1
  obtain ⟨hj, hz⟩ := List.getElem?_eq_some_iff.1 hz1
  rw [add_lit, Nat.zero_add, cell_of_row _ _ j _ _ _ h1, bytesRow_at _ _ j (by simpa using hj), ← hz2, ← hz]
  simp [vb]
theorem grown_new {w a b : World} {g q : Nat} (h1 : w.grownBy a (some g)) (h2 : a.grownBy b (some q)) (hq : w.heap.size ≤ q) : w.grownBy b (some g) :=
  ⟨h2.os.trans h1.os, h2.tape.trans h1.tape, h2.output.trans h1.output, Nat.le_trans h1.size h2.size, fun k hk hne => (h2.block k (Nat.lt_of_lt_of_le hk h1.size) (fun e => by injection e with e; omega)).trans (h1.block k hk hne)⟩

set_option maxRecDepth 100000 in
set_option maxHeartbeats 1000000 in
theorem sieve_Get (w : World) (g : Nat) (A : Option Addr) (n c : Nat) (L : List UInt8) (k : Nat) (why : Int) (h : Rd w g A n c L k why) :
    Calls Try.prog 44 #[.pointer (some ⟨g, 0, none⟩)] w (SGetTo w g A n c L (rText (L.drop k) 65536 why).1 (k + (rText (L.drop k) 65536 why).2.1) (rText (L.drop k) 65536 why).2.2) := by
  have hT := Lib.hid (reader_Text (w.alloc (.cells #[.slice none 0 0] 61)) g A n c L k why 65536 (h.alloc _))
  have hglt := h.blk.lt
  have BF := Blk.new w 61 #[.slice none 0 0]
  obtain ⟨s, m, e0, hq⟩ : ∃ s m e0, rText (L.drop k) 65536 why = (s, m, e0) := ⟨_, _, _, rfl⟩
  have hbad := rText_bad (L.drop k) 65536 why
  rw [hq] at hT hbad ⊢
  simp only [] at hT hbad ⊢
  clear h hq
  go_enter Try.func44, Try.ntmps44
  go_wp2_with fail
  refine hT.out.mono ?_
  rintro e w1 ⟨rfl, R1, g1⟩
  replace BF := BF.grown g1 (by simp; omega)
  have cf := BF.cell
  have ff := BF.frozen
  have hW := reader_Why w1 g A n c L (k + m) e0 R1
  go_wp2_with fail
  refine hW.mono ?_
  rintro e w2 ⟨rfl, rfl⟩
  by_cases he : e0 = 0
  · subst he
    have hcv := run_bytes_of_string (P := Try.prog) w1 9 46 5 ⟨s.toArray⟩ Try.underlying9 Try.underlying46 Try.underlying5
    generalize grownCap w1 (ByteArray.size ⟨s.toArray⟩) 0 5 = cap at *
    have BF2 := BF.drew.alloc (.cells (bytesRow ⟨s.toArray⟩ cap) 5 ((bytesRow ⟨s.toArray⟩ cap).size, (bytesRow ⟨s.toArray⟩ cap).size + 1))
    have RB := bytes_new w1 s cap ((bytesRow ⟨s.toArray⟩ cap).size, (bytesRow ⟨s.toArray⟩ cap).size + 1) w.heap.size (.slice (some ⟨w1.heap.size, 0, none⟩) s.length cap) BF.lt
    have gW : w1.grownBy (w1.drew.alloc (.cells (bytesRow ⟨s.toArray⟩ cap) 5 ((bytesRow ⟨s.toArray⟩ cap).size, (bytesRow ⟨s.toArray⟩ cap).size + 1))) (some w.heap.size) := grown_alloc (grown_drewN w1 1 _) _
    generalize w1.drew.alloc (.cells (bytesRow ⟨s.toArray⟩ cap) 5 ((bytesRow ⟨s.toArray⟩ cap).size, (bytesRow ⟨s.toArray⟩ cap).size + 1)) = W2 at *
    have cf2 := BF2.cell
    have ff2 := BF2.frozen
    have g2 := grown_new (grown_trans' (grown_alloc (World.grownBy.refl w (some g)) (.cells #[.slice none 0 0] 61)) g1) (grown_trans' gW (only_set W2 w.heap.size 0 (.slice (some ⟨w1.heap.size, 0, none⟩) s.length cap))) (Nat.le_refl _)
    have R2 := R1.grown (grown_trans' gW (only_set W2 w.heap.size 0 (.slice (some ⟨w1.heap.size, 0, none⟩) s.length cap))) (fun q hq => by injection hq with hq; omega)
    have zz := (BF2.set_ 0 (.slice (some ⟨w1.heap.size, 0, none⟩) s.length cap)).cell
    simp at zz
    go_wp2_with fail
    refine bodyPost_ret (v := .agg #[.slice (some ⟨w1.heap.size, 0, none⟩) s.length cap]) (by simp [results, Try.results44, go_sem, zz]) rfl ⟨_, _, rfl, RB, R2, g2⟩
  · have hd : (e0 != 0) = true := by simp [he]
    have hs := hbad he
    subst hs
    have zz := (BF.set_ 0 (.slice none 0 0)).cell
    simp at zz
    have g2 := grown_new (grown_trans' (grown_alloc (World.grownBy.refl w (some g)) (.cells #[.slice none 0 0] 61)) g1) (only_set w1 w.heap.size 0 (.slice none 0 0)) (Nat.le_refl _)
    have R2 := R1.grown (only_set w1 w.heap.size 0 (.slice none 0 0)) (fun q hq => by injection hq with hq; omega)
    clear g1 R1 BF
    go_wp2_with fail
    refine bodyPost_ret (v := .agg #[.slice none 0 0]) (by simp [results, Try.results44, go_sem, zz]) rfl ⟨none, 0, rfl, Reads.none_, R2, g2⟩
end Go.Proofs.Ytfebncpfhdgkpaa
