/- A node's side taken anew, and a node turned with its side: the tree lies as told. No function of the program is named here, and nothing is assumed. -/
import Derived.Test.YthbhbechemnidaaMemT
namespace Go.Proofs.Ythbhbechemnidaa
open Go.RowKit Go.Sort

theorem nodup_parts {g : Nat} {L R : List Nat} (h : (g :: (L ++ R)).Nodup) : g ∉ L ∧ g ∉ R ∧ L.Nodup ∧ R.Nodup ∧ ∀ q ∈ L, q ∉ R := by
  obtain ⟨h1, h2⟩ := List.nodup_cons.1 h
  obtain ⟨h3, h4, h5⟩ := List.nodup_append.1 h2
  exact ⟨fun hq => h1 (List.mem_append_left _ hq), fun hq => h1 (List.mem_append_right _ hq), h3, h4, fun q hq hr => h5 q hq q hr rfl⟩
theorem nodup_of {g : Nat} {L R : List Nat} (h1 : g ∉ L) (h2 : g ∉ R) (h3 : L.Nodup) (h4 : R.Nodup) (h5 : ∀ q ∈ L, q ∉ R) : (g :: (L ++ R)).Nodup :=
  List.nodup_cons.2 ⟨fun hq => (List.mem_append.1 hq).elim h1 h2, List.nodup_append.2 ⟨h3, h4, fun q hq _ hr e => h5 q hq (e ▸ hr)⟩⟩
theorem gs_blk {w : World} {lo : Nat} {t : TT} (h : t.Lies w lo) : ∀ q ∈ t.gs, ∃ cs, Blk w q 95 cs := fun q hq => (h.mem q hq).2
/-- The tree t' stands where t stood: its blocks are t's or new. -/
structure Anew (w : World) (lo : Nat) (t t' : TT) (w' : World) : Prop where
  lies : t'.Lies w' lo
  nd : t'.gs.Nodup
  sub : ∀ q ∈ t'.gs, q ∈ t.gs ∨ w.heap.size ≤ q
  tr : Turned t.gs w w'
theorem Anew.refl {w : World} {lo : Nat} {t : TT} (h : t.Lies w lo) (hn : t.gs.Nodup) : Anew w lo t t w := ⟨h, hn, fun _ h => .inl h, Turned.refl _ _⟩
theorem Anew.below {w w' w'' : World} {lo : Nat} {t t' : TT} (h : Anew w lo t t' w') (b : Below w'.heap.size w' w'') : Anew w lo t t' w'' :=
  ⟨(Turned.of_below (G := []) b).lies (fun _ h => by cases h) h.lies (fun _ _ h => by cases h), h.nd, h.sub, h.tr.trans (Turned.of_below b)⟩
theorem Anew.then_ {w w' w'' : World} {lo : Nat} {t t' t'' : TT} (h : Anew w lo t t' w') (h' : Anew w' lo t' t'' w'') : Anew w lo t t'' w'' :=
  ⟨h'.lies, h'.nd, fun q hq => (h'.sub q hq).elim (h.sub q) (fun h1 => .inr (Nat.le_trans h.tr.size h1)), h.tr.mono_new h'.tr h.sub⟩

/-- A node's left side taken anew. -/
theorem anew_left {w w3 : World} {lo g : Nat} {l r x : TT} {e : MutS} {wt : Int} (h : (TT.node g l e wt r).Lies w lo) (hn : (TT.node g l e wt r).gs.Nodup) (a : Anew w lo l x w3) :
    Anew w lo (TT.node g l e wt r) (TT.node g x e wt r) (w3.setCell ⟨g, 11, none⟩ x.ptr) := by
  obtain ⟨h1, h2, h3, h4, h5⟩ := h
  obtain ⟨n1, n2, n3, n4, n5⟩ := nodup_parts hn
  have hgl : g < w.heap.size := h2.lt
  have gO : g ∉ l.gs := n1
  have hb3 : Blk w3 g 95 (nodeC e wt l.ptr r.ptr) := (a.tr.block g hgl gO).trans h2
  have gx : g ∉ x.gs := fun hq => (a.sub g hq).elim gO (fun h => by omega)
  have oth3 : r.Lies w3 lo := a.tr.lies (gs_blk h4) h5 (fun q hq hq2 => n5 q hq2 hq)
  have e3 : OwnE w3 lo e := a.tr.ownE (gs_blk h4) h3
  have ts : Turned [g] w3 (w3.setCell ⟨g, 11, none⟩ x.ptr) := Turned.set (List.mem_cons_self ..) _ _
  have hbs : ∀ q ∈ [g], ∃ cs, Blk w3 q 95 cs := fun q hq => by rw [List.mem_singleton.1 hq]; exact ⟨_, hb3⟩
  have x4 : x.Lies (w3.setCell ⟨g, 11, none⟩ x.ptr) lo := ts.lies hbs a.lies (fun q hq h => gx (by rw [← List.mem_singleton.1 h]; exact hq))
  have o4 : r.Lies (w3.setCell ⟨g, 11, none⟩ x.ptr) lo := ts.lies hbs oth3 (fun q hq h => n2 (by rw [← List.mem_singleton.1 h]; exact hq))
  refine ⟨⟨h1, hb3.set_ 11 x.ptr, ts.ownE hbs e3, x4, o4⟩, nodup_of gx n2 a.nd n4 (fun q hq hr => (a.sub q hq).elim (fun h => n5 q h hr) (fun h => by have := h5.lt q hr; omega)), fun q hq => ?_, (a.tr.mono (fun q hq => List.mem_cons_of_mem _ (List.mem_append_left _ hq))).trans (ts.mono (fun q hq => by rw [List.mem_singleton.1 hq]; exact List.mem_cons_self ..))⟩
  rcases List.mem_cons.1 hq with rfl | hq
  · exact .inl (List.mem_cons_self ..)
  · rcases List.mem_append.1 hq with hq | hq
    · exact (a.sub q hq).imp (fun h => List.mem_cons_of_mem _ (List.mem_append_left _ h)) id
    · exact .inl (List.mem_cons_of_mem _ (List.mem_append_right _ hq))

/-- A node's right side taken anew. -/
theorem anew_right {w w3 : World} {lo g : Nat} {l r x : TT} {e : MutS} {wt : Int} (h : (TT.node g l e wt r).Lies w lo) (hn : (TT.node g l e wt r).gs.Nodup) (a : Anew w lo r x w3) :
    Anew w lo (TT.node g l e wt r) (TT.node g l e wt x) (w3.setCell ⟨g, 12, none⟩ x.ptr) := by
  obtain ⟨h1, h2, h3, h4, h5⟩ := h
  obtain ⟨n1, n2, n3, n4, n5⟩ := nodup_parts hn
  have hgl : g < w.heap.size := h2.lt
  have gO : g ∉ r.gs := n2
  have hb3 : Blk w3 g 95 (nodeC e wt l.ptr r.ptr) := (a.tr.block g hgl gO).trans h2
  have gx : g ∉ x.gs := fun hq => (a.sub g hq).elim gO (fun h => by omega)
  have oth3 : l.Lies w3 lo := a.tr.lies (gs_blk h5) h4 (fun q hq hq2 => n5 q hq hq2)
  have e3 : OwnE w3 lo e := a.tr.ownE (gs_blk h5) h3
  have ts : Turned [g] w3 (w3.setCell ⟨g, 12, none⟩ x.ptr) := Turned.set (List.mem_cons_self ..) _ _
  have hbs : ∀ q ∈ [g], ∃ cs, Blk w3 q 95 cs := fun q hq => by rw [List.mem_singleton.1 hq]; exact ⟨_, hb3⟩
  have x4 : x.Lies (w3.setCell ⟨g, 12, none⟩ x.ptr) lo := ts.lies hbs a.lies (fun q hq h => gx (by rw [← List.mem_singleton.1 h]; exact hq))
  have o4 : l.Lies (w3.setCell ⟨g, 12, none⟩ x.ptr) lo := ts.lies hbs oth3 (fun q hq h => n1 (by rw [← List.mem_singleton.1 h]; exact hq))
  refine ⟨⟨h1, hb3.set_ 12 x.ptr, ts.ownE hbs e3, o4, x4⟩, nodup_of n1 gx n3 a.nd (fun q hq hr => (a.sub q hr).elim (fun h => n5 q hq h) (fun h => by have := h4.lt q hq; omega)), fun q hq => ?_, (a.tr.mono (fun q hq => List.mem_cons_of_mem _ (List.mem_append_right _ hq))).trans (ts.mono (fun q hq => by rw [List.mem_singleton.1 hq]; exact List.mem_cons_self ..))⟩
  rcases List.mem_cons.1 hq with rfl | hq
  · exact .inl (List.mem_cons_self ..)
  · rcases List.mem_append.1 hq with hq | hq
    · exact .inl (List.mem_cons_of_mem _ (List.mem_append_left _ hq))
    · exact (a.sub q hq).imp (fun h => List.mem_cons_of_mem _ (List.mem_append_right _ h)) id

/-- A node turned with its left side. -/
theorem turn_left {w : World} {lo g gl : Nat} {ll lr r : TT} {e el : MutS} {wt wl : Int} (h : (TT.node g (TT.node gl ll el wl lr) e wt r).Lies w lo) (hn : (TT.node g (TT.node gl ll el wl lr) e wt r).gs.Nodup) :
    Anew w lo (TT.node g (TT.node gl ll el wl lr) e wt r) (TT.node gl ll el wl (TT.node g lr e wt r)) ((w.setCell ⟨g, 11, none⟩ lr.ptr).setCell ⟨gl, 12, none⟩ (.pointer (some ⟨g, 0, none⟩))) := by
  obtain ⟨h1, h2, h3, ⟨k1, k2, k3, k4, k5⟩, h5⟩ := h
  obtain ⟨n1, n2, n3, n4, n5⟩ := nodup_parts hn
  obtain ⟨m1, m2, m3, m4, m5⟩ := nodup_parts n3
  have hne : g ≠ gl := fun e => n1 (by rw [e]; exact List.mem_cons_self ..)
  have gll : g ∉ ll.gs := fun h => n1 (List.mem_cons_of_mem _ (List.mem_append_left _ h))
  have glr : g ∉ lr.gs := fun h => n1 (List.mem_cons_of_mem _ (List.mem_append_right _ h))
  have glR : gl ∉ r.gs := n5 gl (List.mem_cons_self ..)
  have lR : ∀ q ∈ ll.gs, q ∉ r.gs := fun q hq => n5 q (List.mem_cons_of_mem _ (List.mem_append_left _ hq))
  have rR : ∀ q ∈ lr.gs, q ∉ r.gs := fun q hq => n5 q (List.mem_cons_of_mem _ (List.mem_append_right _ hq))
  have hG : ∀ q ∈ [g, gl], ∃ cs, Blk w q 95 cs := fun q hq => by
    rcases List.mem_cons.1 hq with rfl | hq
    · exact ⟨_, h2⟩
    · rw [List.mem_singleton.1 hq]; exact ⟨_, k2⟩
  have T : Turned [g, gl] w ((w.setCell ⟨g, 11, none⟩ lr.ptr).setCell ⟨gl, 12, none⟩ (.pointer (some ⟨g, 0, none⟩))) := (Turned.set (List.mem_cons_self ..) _ _).trans (Turned.set (List.mem_cons_of_mem _ (List.mem_cons_self ..)) _ _)
  have out : ∀ {t : TT}, g ∉ t.gs → gl ∉ t.gs → ∀ q ∈ t.gs, q ∉ [g, gl] := fun a b q hq h => by
    rcases List.mem_cons.1 h with rfl | h
    · exact a hq
    · rw [List.mem_singleton.1 h] at hq; exact b hq
  refine ⟨⟨k1, (k2.far (p := ⟨g, 11, none⟩) (Ne.symm hne) lr.ptr).set_ 12 _, T.ownE hG k3, T.lies hG k4 (out gll m1), h1, (h2.set_ 11 lr.ptr).far (p := ⟨gl, 12, none⟩) hne _, T.ownE hG h3, T.lies hG k5 (out glr m2), T.lies hG h5 (out n2 glR)⟩, ?_, fun q hq => .inl ?_, T.mono ?_⟩
  · refine nodup_of m1 ?_ m3 (nodup_of glr n2 m4 n4 rR) (fun q hq h => ?_)
    · intro h
      rcases List.mem_cons.1 h with h | h
      · exact hne h.symm
      · exact (List.mem_append.1 h).elim m2 glR
    · rcases List.mem_cons.1 h with rfl | h
      · exact gll hq
      · exact (List.mem_append.1 h).elim (m5 q hq) (lR q hq)
  · rcases List.mem_cons.1 hq with rfl | hq
    · exact List.mem_cons_of_mem _ (List.mem_append_left _ (List.mem_cons_self ..))
    · rcases List.mem_append.1 hq with hq | hq
      · exact List.mem_cons_of_mem _ (List.mem_append_left _ (List.mem_cons_of_mem _ (List.mem_append_left _ hq)))
      · rcases List.mem_cons.1 hq with rfl | hq
        · exact List.mem_cons_self ..
        · rcases List.mem_append.1 hq with hq | hq
          · exact List.mem_cons_of_mem _ (List.mem_append_left _ (List.mem_cons_of_mem _ (List.mem_append_right _ hq)))
          · exact List.mem_cons_of_mem _ (List.mem_append_right _ hq)
  · intro q hq
    rcases List.mem_cons.1 hq with rfl | hq
    · exact List.mem_cons_self ..
    · rw [List.mem_singleton.1 hq]
      exact List.mem_cons_of_mem _ (List.mem_append_left _ (List.mem_cons_self ..))
/-- A node turned with its right side. -/
theorem turn_right {w : World} {lo g gr : Nat} {l rl rr : TT} {e er : MutS} {wt wr : Int} (h : (TT.node g l e wt (TT.node gr rl er wr rr)).Lies w lo) (hn : (TT.node g l e wt (TT.node gr rl er wr rr)).gs.Nodup) :
    Anew w lo (TT.node g l e wt (TT.node gr rl er wr rr)) (TT.node gr (TT.node g l e wt rl) er wr rr) ((w.setCell ⟨g, 12, none⟩ rl.ptr).setCell ⟨gr, 11, none⟩ (.pointer (some ⟨g, 0, none⟩))) := by
  obtain ⟨h1, h2, h3, h4, ⟨k1, k2, k3, k4, k5⟩⟩ := h
  obtain ⟨n1, n2, n3, n4, n5⟩ := nodup_parts hn
  obtain ⟨m1, m2, m3, m4, m5⟩ := nodup_parts n4
  have hne : g ≠ gr := fun e => n2 (by rw [e]; exact List.mem_cons_self ..)
  have grl : g ∉ rl.gs := fun h => n2 (List.mem_cons_of_mem _ (List.mem_append_left _ h))
  have grr : g ∉ rr.gs := fun h => n2 (List.mem_cons_of_mem _ (List.mem_append_right _ h))
  have grL : gr ∉ l.gs := fun h => n5 gr h (List.mem_cons_self ..)
  have lL : ∀ q ∈ l.gs, q ∉ rl.gs := fun q hq h => n5 q hq (List.mem_cons_of_mem _ (List.mem_append_left _ h))
  have lR : ∀ q ∈ l.gs, q ∉ rr.gs := fun q hq h => n5 q hq (List.mem_cons_of_mem _ (List.mem_append_right _ h))
  have hG : ∀ q ∈ [g, gr], ∃ cs, Blk w q 95 cs := fun q hq => by
    rcases List.mem_cons.1 hq with rfl | hq
    · exact ⟨_, h2⟩
    · rw [List.mem_singleton.1 hq]; exact ⟨_, k2⟩
  have T : Turned [g, gr] w ((w.setCell ⟨g, 12, none⟩ rl.ptr).setCell ⟨gr, 11, none⟩ (.pointer (some ⟨g, 0, none⟩))) := (Turned.set (List.mem_cons_self ..) _ _).trans (Turned.set (List.mem_cons_of_mem _ (List.mem_cons_self ..)) _ _)
  have out : ∀ {t : TT}, g ∉ t.gs → gr ∉ t.gs → ∀ q ∈ t.gs, q ∉ [g, gr] := fun a b q hq h => by
    rcases List.mem_cons.1 h with rfl | h
    · exact a hq
    · rw [List.mem_singleton.1 h] at hq; exact b hq
  refine ⟨⟨k1, (k2.far (p := ⟨g, 12, none⟩) (Ne.symm hne) rl.ptr).set_ 11 _, T.ownE hG k3, ⟨h1, (h2.set_ 12 rl.ptr).far (p := ⟨gr, 11, none⟩) hne _, T.ownE hG h3, T.lies hG h4 (out n1 grL), T.lies hG k4 (out grl m1)⟩, T.lies hG k5 (out grr m2)⟩, ?_, fun q hq => .inl ?_, T.mono ?_⟩
  · refine nodup_of ?_ m2 (nodup_of n1 grl n3 m3 lL) m4 (fun q hq h => ?_)
    · intro h
      rcases List.mem_cons.1 h with h | h
      · exact hne h.symm
      · exact (List.mem_append.1 h).elim grL m1
    · rcases List.mem_cons.1 hq with rfl | hq
      · exact grr h
      · exact (List.mem_append.1 hq).elim (fun hq => lR q hq h) (fun hq => m5 q hq h)
  · rcases List.mem_cons.1 hq with rfl | hq
    · exact List.mem_cons_of_mem _ (List.mem_append_right _ (List.mem_cons_self ..))
    · rcases List.mem_append.1 hq with hq | hq
      · rcases List.mem_cons.1 hq with rfl | hq
        · exact List.mem_cons_self ..
        · rcases List.mem_append.1 hq with hq | hq
          · exact List.mem_cons_of_mem _ (List.mem_append_left _ hq)
          · exact List.mem_cons_of_mem _ (List.mem_append_right _ (List.mem_cons_of_mem _ (List.mem_append_left _ hq)))
      · exact List.mem_cons_of_mem _ (List.mem_append_right _ (List.mem_cons_of_mem _ (List.mem_append_right _ hq)))
  · intro q hq
    rcases List.mem_cons.1 hq with rfl | hq
    · exact List.mem_cons_self ..
    · rw [List.mem_singleton.1 hq]
      exact List.mem_cons_of_mem _ (List.mem_append_right _ (List.mem_cons_self ..))
end Go.Proofs.Ythbhbechemnidaa
