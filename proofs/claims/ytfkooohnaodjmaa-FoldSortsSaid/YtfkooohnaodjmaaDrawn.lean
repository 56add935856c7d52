/- Draws only grow: a law about the model's runs (no program in it). -/
import Derived.Calls
import Derived.RunT
namespace Go.Proofs.Ytfkooohnaodjmaa
open Go
theorem ask_drawn {α : Type} : ∀ (k : Ask α) (w : World), w.drawn ≤ (w.ask k).2.drawn
  | .done a, w => by simp [World.ask]
  | .ask what range k, w => by
    unfold World.ask
    simp only
    split
    · exact ask_drawn (k 0) w
    · exact Nat.le_trans (Nat.le_succ _) (ask_drawn (k _) { w with drawn := w.drawn + 1 })
theorem sys_drawn (w : World) (c : Sys) : w.drawn ≤ (w.sys c).2.drawn := by
  unfold World.sys
  have h := ask_drawn (Kernel.perform c w.os) w
  split
  · exact Nat.le_refl _
  · rename_i h2
    rw [h2] at h
    exact h
theorem setCell_drawn (w : World) (a : Addr) (v : Value) : (w.setCell a v).drawn = w.drawn := by
  unfold World.setCell
  split <;> rfl
theorem freeze_drawn (w : World) (a : Addr) (n : Nat) : (w.freeze a n).drawn = w.drawn := by
  unfold World.freeze
  split <;> rfl
theorem bind_ok {α β : Type} {x : Except String α} {f : α → Except String β} {b : β} (h : (x >>= f) = .ok b) : ∃ a, x = .ok a ∧ f a = .ok b := by
  cases x with
  | error e => cases h
  | ok a => exact ⟨a, rfl, h⟩
theorem viewStore_drawn {p : Program} {w w' : World} {at_ : Addr} {u : TypeId} {k : Addr} {v : Value} {atomic : Bool} {l : List Addr} (h : World.viewStore p w at_ u k v atomic = .ok (w', l)) : w'.drawn = w.drawn := by
  unfold World.viewStore at h
  simp only at h
  split at h
  · cases h
  · obtain ⟨x, _, h⟩ := bind_ok h
    split at h
    · split at h
      · obtain ⟨_, h0, _⟩ := bind_ok h
        cases h0
      · obtain ⟨c, _, h⟩ := bind_ok h
        injection h with h
        injection h with h _
        rw [← h]
    · cases h
theorem farStore_drawn {p : Program} {w w' : World} {a : Addr} {v : Value} {atomic : Bool} {l : List Addr} (h : w.farStore p a v atomic = .ok (w', l)) : w'.drawn = w.drawn := by
  unfold World.farStore at h
  split at h
  · split at h
    · rename_i r h2
      injection h with h
      subst h
      exact viewStore_drawn h2
    · cases h
  · cases h
theorem run_drawn {α : Type} (p : Program) : ∀ (s : Sem α) (w w' : World) (a : α), s.run p w = .ok a w' → w.drawn ≤ w'.drawn := by
  intro s
  induction s with
  | pure x => intro w w' a h; simp only [Sem.run] at h; injection h with _ h; rw [h]; exact Nat.le_refl _
  | load m x k ih =>
    intro w w' a h
    simp only [Sem.run] at h
    split at h
    · exact ih _ _ _ _ h
    · split at h
      · exact ih _ _ _ _ h
      · cases h
  | store m x v k ih =>
    intro w w' a h
    cases v
    case agg => simp only [Sem.run] at h; cases h
    case tuple => simp only [Sem.run] at h; cases h
    all_goals
      simp only [Sem.run] at h
      split at h
      · split at h
        · cases h
        · have := ih _ _ _ h
          rwa [setCell_drawn] at this
      · split at h
        · rename_i h2
          have := ih _ _ _ h
          rwa [farStore_drawn h2] at this
        · cases h
  | new o k ih => intro w w' a h; simp only [Sem.run] at h; have h2 := ih _ _ _ _ h; exact h2
  | shape r k ih => intro w w' a h; simp only [Sem.run] at h; exact ih _ _ _ _ h
  | freeze x n k ih => intro w w' a h; simp only [Sem.run] at h; have := ih _ _ _ h; rwa [freeze_drawn] at this
  | frozen x k ih => intro w w' a h; simp only [Sem.run] at h; exact ih _ _ _ _ h
  | getObj r k ih =>
    intro w w' a h
    simp only [Sem.run] at h
    split at h
    · cases h
    · exact ih _ _ _ _ h
    · cases h
  | setObj r o k ih =>
    intro w w' a h
    simp only [Sem.run] at h
    split at h
    · cases h
    · have h2 := ih _ _ _ h
      exact h2
    · cases h
  | choose q k ih =>
    intro w w' a h
    simp only [Sem.run] at h
    split at h
    · exact ih _ _ _ _ h
    · exact Nat.le_trans (Nat.le_succ _) (ih _ _ _ _ h)
  | sys c k ih => intro w w' a h; simp only [Sem.run] at h; exact Nat.le_trans (sys_drawn w c) (ih _ _ _ _ h)
  | program k ih => intro w w' a h; simp only [Sem.run] at h; exact ih _ _ _ _ h
  | mark x k ih => intro w w' a h; simp only [Sem.run] at h; exact ih _ _ _ h
  | halt x => intro w w' a h; simp only [Sem.run] at h; cases h
def wd {α : Type} : Result α → World
  | .ok _ w => w
  | .halt _ w => w
theorem run_grows {α : Type} (p : Program) : ∀ (s : Sem α) (w : World), w.drawn ≤ (wd (s.run p w)).drawn := by
  intro s
  induction s with
  | pure x => intro w; exact Nat.le_refl _
  | load m x k ih =>
    intro w
    simp only [Sem.run]
    split
    · exact ih _ _
    · split
      · exact ih _ _
      · exact Nat.le_refl _
  | store m x v k ih =>
    intro w
    cases v
    case agg => simp only [Sem.run]; exact Nat.le_refl _
    case tuple => simp only [Sem.run]; exact Nat.le_refl _
    all_goals
      simp only [Sem.run]
      split
      · split
        · exact Nat.le_refl _
        · have := ih (w.setCell ‹_› ‹_›)
          first
          | exact this
          | (refine Nat.le_trans (Nat.le_of_eq ?_) (ih _); rw [setCell_drawn])
      · split
        · rename_i h2
          refine Nat.le_trans (Nat.le_of_eq ?_) (ih _)
          rw [farStore_drawn h2]
        · exact Nat.le_refl _
  | new o k ih => intro w; simp only [Sem.run]; exact ih _ { w with heap := w.heap.push o }
  | shape r k ih => intro w; simp only [Sem.run]; exact ih _ _
  | freeze x n k ih => intro w; simp only [Sem.run]; refine Nat.le_trans (Nat.le_of_eq ?_) (ih _); rw [freeze_drawn]
  | frozen x k ih => intro w; simp only [Sem.run]; exact ih _ _
  | getObj r k ih =>
    intro w
    simp only [Sem.run]
    split
    · exact Nat.le_refl _
    · exact ih _ _
    · exact Nat.le_refl _
  | setObj r o k ih =>
    intro w
    simp only [Sem.run]
    split
    · exact Nat.le_refl _
    · exact ih { w with heap := w.heap.setIfInBounds r o }
    · exact Nat.le_refl _
  | choose q k ih =>
    intro w
    simp only [Sem.run]
    split
    · exact ih _ _
    · exact Nat.le_trans (Nat.le_succ _) (ih _ { w with drawn := w.drawn + 1 })
  | sys c k ih => intro w; simp only [Sem.run]; exact Nat.le_trans (sys_drawn w c) (ih _ _)
  | program k ih => intro w; simp only [Sem.run]; exact ih _ _
  | mark x k ih => intro w; simp only [Sem.run]; exact ih _
  | halt x => intro w; exact Nat.le_refl _
theorem runT_grows {α : Type} (p : Program) (s : Sem α) (w : World) (es : Array Event) : w.drawn ≤ (wd (s.runT p w es).1).drawn := by
  rw [Sem.runT_fst]; exact run_grows p s w
theorem runT_le {α : Type} (p : Program) (s : Sem α) (w : World) (es : Array Event) (r : Result α × Array Event) (h : s.runT p w es = r) : w.drawn ≤ (wd r.1).drawn := by
  rw [← h]; exact runT_grows p s w es
def Gr (d : Nat) : GStep → Prop
  | .ended .. => True
  | .go _ w _ => d ≤ w.drawn
  | .comm _ _ _ _ w _ => d ≤ w.drawn
  | .spawn _ _ w _ => d ≤ w.drawn
  | .count _ w _ => d ≤ w.drawn
  | .timer _ _ w _ => d ≤ w.drawn
  | .alone _ _ w _ => d ≤ w.drawn
  | .newcoro _ _ _ w _ => d ≤ w.drawn
  | .coroswitch _ _ _ w _ => d ≤ w.drawn
  | .collect _ w _ => d ≤ w.drawn
  | .watch _ w _ => d ≤ w.drawn
theorem Gr.ite {d : Nat} {c : Prop} [Decidable c] {a b : GStep} (h1 : Gr d a) (h2 : Gr d b) : Gr d (if c then a else b) := by split <;> assumption
theorem Gr.after {d : Nat} {es : Array Event} {s : GStep} (h : Gr d s) : Gr d (GStep.after es s) := by cases s <;> exact h
theorem doReturn_gr {p : Program} {main : Bool} {fr : Frame} {cs : List Frame} {dy : Option Dying} {v : Value} {w : World} {d : Nat} (h : d ≤ w.drawn) : Gr d (doReturn p main fr cs dy v w) := by
  unfold doReturn
  repeat' first
    | exact h
    | exact trivial
    | split
theorem endWith_gr {d : Nat} (w : World) (fd : Nat) (t : ByteArray) (o : Outcome) : Gr d (endWith w fd t o) := by
  unfold endWith
  simp only []
  repeat' first
    | exact trivial
    | split
theorem endThrow_gr {fr : Frame} {m : String} {w : World} {d : Nat} (h : d ≤ w.drawn) : Gr d (endThrow fr m w) := h
theorem endPrinting_gr {p : Program} {fr : Frame} {v : Value} {w : World} {d : Nat} (h : d ≤ w.drawn) : Gr d (endPrinting p fr v w) := by
  unfold endPrinting
  simp only []
  repeat' first
    | exact trivial
    | exact h
    | split
theorem endFatal_gr {p : Program} {fr : Frame} {cs : List Frame} {dy : Option Dying} {m : String} {w : World} {d : Nat} (h : d ≤ w.drawn) : Gr d (endFatal p fr cs dy m w) := by
  unfold endFatal
  simp only []
  split
  · rename_i h2; exact Nat.le_trans h (run_drawn p _ _ _ _ h2)
  · exact trivial
  · exact trivial
theorem writeOn_gr {p : Program} {fr : Frame} {dd : Dying} {f : Fatal} {w : World} {d : Nat} (h : d ≤ w.drawn) : Gr d (writeOn p fr dd f w) := by
  unfold writeOn
  simp only []
  split
  · exact trivial
  · rename_i piece rest _
    split
    all_goals first
      | exact trivial
      | (rename_i h2; exact Nat.le_trans h (runT_le p _ _ _ _ h2))
theorem callDeferred_gr {p : Program} {fr : Frame} {cs : List Frame} {dy : Option Dying} {x : Deferred} {w : World} {d : Nat} (h : d ≤ w.drawn) : Gr d (callDeferred p fr cs dy x w) := by
  unfold callDeferred
  refine Gr.ite trivial ?_
  have hg := Nat.le_trans h (runT_grows p (invoke x.target x.args) w #[])
  revert hg
  generalize (invoke x.target x.args).runT p w #[] = re
  obtain ⟨r, es⟩ := re
  intro hg
  simp only []
  refine Gr.after ?_
  change d ≤ (wd r).drawn at hg
  repeat' first
    | exact trivial
    | (subst_vars; exact hg)
    | (subst_vars; exact endFatal_gr hg)
    | (subst_vars; exact endThrow_gr hg)
    | split
theorem unwind_gr {p : Program} {main : Bool} {fr : Frame} {cs : List Frame} {dy : Option Dying} {w : World} {d : Nat} (h : d ≤ w.drawn) : Gr d (unwind p main fr cs dy w) := by
  unfold unwind
  split
  · rename_i block _ ds _
    have hg := runT_grows p (Instr.takeDeferred block) w #[]
    revert hg
    generalize (Instr.takeDeferred block).runT p w #[] = re
    obtain ⟨r, es⟩ := re
    intro hg
    simp only []
    refine Gr.after ?_
    cases r with
    | ok n w2 => exact Nat.le_trans h hg
    | halt n w2 => exact trivial
  · exact callDeferred_gr h
  · split
    · exact trivial
    · split
      · exact trivial
      split
      · exact h
      · split
        · split
          · exact h
          · split
            · rename_i h2; exact Nat.le_trans h (run_drawn p _ _ _ _ h2)
            · exact trivial
            · exact trivial
        · split
          · exact endPrinting_gr h
          · exact trivial
    · split
      · exact doReturn_gr h
      · rename_i fn _
        have hg := runT_grows p (results fn fr.tmps) w #[]
        revert hg
        generalize (results fn fr.tmps).runT p w #[] = re
        obtain ⟨r, es⟩ := re
        intro hg
        simp only []
        refine Gr.after ?_
        cases r with
        | ok n w2 => exact doReturn_gr (Nat.le_trans h hg)
        | halt n w2 => cases n <;> exact trivial
theorem die_gr {p : Program} {fr : Frame} {dd : Dying} {w : World} {d : Nat} (h : d ≤ w.drawn) : Gr d (die p fr dd w) := by
  unfold die
  split
  · exact writeOn_gr h
  split
  · split
    · exact h
    · exact endWith_gr _ _ _ _
  · rename_i v mark rest _
    simp only []
    split
    · exact h
    · rename_i s _
      have hg := run_grows p (withAddress s) w
      split
      · rename_i h2; rw [h2] at hg; exact Nat.le_trans h hg
      · exact trivial
    · rename_i t recv name _
      have hg := runT_grows p (invoke (.fn (.method name) #[]) #[.iface t recv]) w #[]
      revert hg
      generalize (invoke (.fn (.method name) #[]) #[.iface t recv]).runT p w #[] = re
      obtain ⟨r, es⟩ := re
      intro hg
      refine Gr.after ?_
      simp only []
      replace hg : d ≤ (wd r).drawn := Nat.le_trans h hg
      repeat' first
        | exact trivial
        | (subst_vars; exact hg)
        | (subst_vars; exact endPrinting_gr hg)
        | split
    · exact trivial
theorem early_gr {p : Program} {fr : Frame} {cs : List Frame} {dy : Option Dying} {g : Nat} {w : World} {d : Nat} (h : d ≤ w.drawn) : Gr d (early p fr cs dy g w) := by
  have hrun : ∀ a w2, (choose (Question.early g)).run p w = .ok a w2 → d ≤ w2.drawn := fun a w2 h2 => Nat.le_trans h (run_drawn p _ _ _ _ h2)
  unfold early
  simp only []
  repeat' first
    | exact h
    | exact trivial
    | (have h3 := hrun _ _ ‹Sem.run p (choose (Question.early g)) w = Result.ok 0 _›; exact h3)
    | exact hrun _ _ (by assumption)
    | split
theorem apply_gr {p : Program} {listen : Bool} {fr : Frame} {cs : List Frame} {dy : Option Dying} {s : Sem Next} {w : World} {d : Nat} (h : d ≤ w.drawn) : Gr d (stepG.apply p listen fr cs dy s w) := by
  unfold stepG.apply
  have hg : w.drawn ≤ (wd (if listen then s.runT p w #[] else (s.run p w, #[])).1).drawn := by
    split
    · exact runT_grows p s w #[]
    · exact run_grows p s w
  revert hg
  generalize (if listen then s.runT p w #[] else (s.run p w, #[])) = re
  obtain ⟨r, es⟩ := re
  intro hg
  simp only []
  refine Gr.after ?_
  replace hg : d ≤ (wd r).drawn := Nat.le_trans h hg
  repeat' first
    | exact trivial
    | (subst_vars; exact hg)
    | (subst_vars; exact endFatal_gr hg)
    | (subst_vars; exact endThrow_gr hg)
    | (subst_vars; exact early_gr hg)
    | split
theorem oper_gr {p : Program} {listen : Bool} {fr : Frame} {cs : List Frame} {dy : Option Dying} {w : World} {d : Nat} (h : d ≤ w.drawn) : Gr d (stepG.oper p listen fr cs dy w) := by
  unfold stepG.oper
  repeat' first
    | exact trivial
    | exact apply_gr h
    | split
theorem elim_gr {α : Type} {d : Nat} {o : Option α} {a : GStep} {f : α → GStep} (h1 : Gr d a) (h2 : ∀ k, Gr d (f k)) : Gr d (o.elim a f) := by
  cases o with
  | none => exact h1
  | some k => exact h2 k
theorem exec_gr {p : Program} {main : Bool} {listen : Bool} {fr : Frame} {cs : List Frame} {dy : Option Dying} {w : World} {d : Nat} (h : d ≤ w.drawn) : Gr d (stepG.exec p main listen fr cs dy w) := by
  have hrt : ∀ {α : Type} (s : Sem α) (r : Result α), (s.runT p w #[]).1 = r → d ≤ (wd r).drawn := fun s r h2 => by
    rw [← h2]; exact Nat.le_trans h (runT_grows p s w #[])
  have hr : ∀ {α : Type} (s : Sem α) (r : Result α), s.run p w = r → d ≤ (wd r).drawn := fun s r h2 => by
    rw [← h2]; exact Nat.le_trans h (run_grows p s w)
  unfold stepG.exec
  simp only []
  split
  all_goals repeat' first
    | exact h
    | exact trivial
    | exact apply_gr h
    | exact oper_gr h
    | (with_reducible refine elim_gr ?_ (fun _ => ?_))
    | (with_reducible refine Gr.after ?_)
    | (rename_i h2; exact hrt _ _ h2)
    | (rename_i h2; exact hr _ _ h2)
    | (rename_i h2; exact doReturn_gr (hrt _ _ h2))
    | (rename_i h2; exact apply_gr (hrt _ _ h2))
    | split
theorem stepG_gr {p : Program} {main : Bool} {listen : Bool} {g : Goroutine} {w : World} {d : Nat} (h : d ≤ w.drawn) : Gr d (stepG p main g w listen) := by
  unfold stepG
  simp only []
  split
  · exact die_gr h
  · exact exec_gr h
  · exact unwind_gr h
def Nx (d : Nat) : Stepped → Prop
  | .next m => d ≤ m.world.drawn
  | .ended .. => True
theorem communicate_nx {p : Program} {rest : Rest} {gs : Array Goroutine} {i : Nat} {g : Goroutine} {cases : Array CommCase} {blocking : Bool} {shape : CommShape} {w : World} {d : Nat} (h : d ≤ w.drawn) :
    Nx d (communicate p rest gs i g cases blocking shape w).1 := by
  have hr : ∀ {α : Type} (s : Sem α) (w : World), d ≤ w.drawn → ∀ (a : α) (w2 : World), s.run p w = .ok a w2 → d ≤ w2.drawn := fun s w hw a w2 h2 => Nat.le_trans hw (run_drawn p s _ _ _ h2)
  have hrh : ∀ {α : Type} (s : Sem α) (w : World), d ≤ w.drawn → ∀ (a : Halt) (w2 : World), s.run p w = .halt a w2 → d ≤ w2.drawn := fun s w hw a w2 h2 => by
    have := run_grows p s w
    rw [h2] at this
    exact Nat.le_trans hw this
  have hwait : ∀ w2, waitingAt rest cases w = some w2 → d ≤ w2.drawn := by
    intro w2 h2
    unfold waitingAt at h2
    split at h2
    · split at h2
      · injection h2 with h2; rw [← h2]; exact h
      · cases h2
    · injection h2 with h2; rw [← h2]; exact h
  unfold communicate
  simp only []
  repeat' first
    | exact trivial
    | exact h
    | (rename_i h2; exact hwait _ h2)
    | split
  all_goals
    have hA := hr _ _ h _ _ ‹Sem.run p _ w = Result.ok _ _›
    first
    | exact hA
    | (have hB := hr _ _ hA _ _ (by assumption); exact hB)
    | (have hB := hrh _ _ hA _ _ (by assumption); exact hB)
theorem look_nx {p : Program} {gs : Array Goroutine} {rest : Rest} {w : World} {d : Nat} (h : d ≤ w.drawn) : Nx d (look p gs rest w) := by
  have hr : ∀ {α : Type} (s : Sem α) (a : α) (w2 : World), s.run p w = .ok a w2 → d ≤ w2.drawn := fun s a w2 h2 => Nat.le_trans h (run_drawn p s _ _ _ h2)
  unfold look
  simp only []
  repeat' first
    | exact trivial
    | split
  all_goals
    have hA := hr _ _ _ ‹Sem.run p _ w = Result.ok _ _›
    exact hA
theorem drain_drawn (w : World) (c : Nat) : (drain w c).2.drawn = w.drawn := by
  unfold drain
  split <;> rfl
theorem retime_drawn (m : Machine) (k : Nat) (t : Timer) (a b : Nat) : (retime m k t a b).2.world.drawn = m.world.drawn := by
  unfold retime
  simp only []
  split
  · exact drain_drawn _ _
  · rfl
theorem timerOp_drawn {m m' : Machine} {op : TimerOp} {v : Value} (h : timerOp m op = .ok (v, m')) : m'.world.drawn = m.world.drawn := by
  unfold timerOp at h
  split at h
  · split at h
    · injection h with h; injection h with _ h; rw [← h]; rfl
    · split at h
      · split at h
        · cases h
        · injection h with h; injection h with _ h; rw [← h]
      · cases h
  · unfold timerOp.named at h
    split at h
    · injection h with h; exact (congrArg (fun x : Value × Machine => x.2.world.drawn) h).symm.trans (retime_drawn _ _ _ _ _)
    · cases h
  · split at h
    · rename_i m2 h2
      have e : m2.world.drawn = m.world.drawn := by
        unfold timerOp.opened at h2
        split at h2
        · split at h2
          · injection h2 with h2; rw [← h2]
          · cases h2
        · injection h2 with h2; rw [← h2]
      rw [← e]
      unfold timerOp.named at h
      split at h
      · injection h with h; exact (congrArg (fun x : Value × Machine => x.2.world.drawn) h).symm.trans (retime_drawn _ _ _ _ _)
      · cases h
    · cases h
  · injection h with h; injection h with _ h; rw [← h]; rfl
theorem runT_nx (p : Program) (m : Machine) (i : Nat) (b : Bool) {d : Nat} (h : d ≤ m.world.drawn) : Nx d (runT p m i b).1 := by
  simp only [runT]
  generalize m.gs.swapAt! i _ = gg
  have hg := stepG_gr (p := p) (main := i == 0) (listen := b) (g := gg.1) h
  generalize stepG p _ gg.1 m.world b = s at hg
  cases s <;> simp only []
  all_goals repeat' first
    | exact trivial
    | exact hg
    | exact communicate_nx hg
    | exact look_nx hg
    | split
  all_goals
    rename_i h2
    have e := timerOp_drawn h2
    have hg2 : d ≤ _ := hg
    exact Nat.le_trans hg2 (Nat.le_of_eq e.symm)
theorem serve_nx (p : Program) (m : Machine) (k : Nat) {d : Nat} (h : d ≤ m.world.drawn) : Nx d (serve p m k) := by
  unfold serve
  simp only []
  repeat' first
    | exact trivial
    | exact h
    | split
def Mv (d : Nat) : Move → Prop
  | .goroutine m _ => d ≤ m.world.drawn
  | .machine s _ => Nx d s
theorem askOn_mv (p : Program) (m : Machine) {d : Nat} (h : d ≤ m.world.drawn) : Mv d (askOn p m) := by
  have hr : ∀ {α : Type} (s : Sem α) (w : World), d ≤ w.drawn → ∀ (a : α) (w2 : World), s.run p w = .ok a w2 → d ≤ w2.drawn := fun s w hw a w2 h2 => Nat.le_trans hw (run_drawn p s _ _ _ h2)
  have hrm : ∀ {α : Type} (s : Sem α) (m : Machine) (t : Nat), d ≤ m.world.drawn → ∀ (a : α) (w2 : World), s.run p (m.advanceTo t).world = .ok a w2 → d ≤ w2.drawn := fun s m t hw a w2 h2 => hr s _ (show d ≤ (m.advanceTo t).world.drawn from hw) _ _ h2
  unfold askOn
  simp only []
  split
  · exact trivial
  rename_i h1
  have h1 := hr _ _ h _ _ h1
  repeat' first
    | exact trivial
    | exact h1
    | (refine serve_nx p _ _ ?_; exact h1)
    | split
  all_goals
    have a2 := hr _ _ h1 _ _ (by assumption)
    first
    | exact a2
    | (have a3 := hr _ _ a2 _ _ (by assumption); exact a3)
    | (have a3 := hr _ _ a2 _ _ (by assumption); have a4 := hr _ _ a3 _ _ (by assumption); exact a4)
    | (have a3 := hrm _ (Machine.mk _ _ _) _ a2 _ _ (by assumption); exact a3)
    | (have a3 := hrm _ (Machine.mk _ _ _) _ a2 _ _ (by assumption); have a4 := hr _ _ a3 _ _ (by assumption); exact a4)
    | trace_state
theorem ask_mv (p : Program) (m : Machine) {d : Nat} (h : d ≤ m.world.drawn) : Mv d (ask p m) := by
  have hr : ∀ {α : Type} (s : Sem α) (w : World), d ≤ w.drawn → ∀ (a : α) (w2 : World), s.run p w = .ok a w2 → d ≤ w2.drawn := fun s w hw a w2 h2 => Nat.le_trans hw (run_drawn p s _ _ _ h2)
  unfold ask
  split
  · split
    · exact trivial
    · rename_i h2
      have hl := look_nx (p := p) (gs := m.gs) (rest := m.rest) (hr _ _ h _ _ h2)
      split
      · rename_i h3
        rw [h3] at hl
        exact askOn_mv p _ hl
      · exact hl
    · rename_i h2
      exact askOn_mv p _ (hr _ _ h _ _ h2)
  · exact askOn_mv p m h
theorem move_mv (p : Program) (m : Machine) {d : Nat} (h : d ≤ m.world.drawn) : Mv d (move p m) := by
  unfold move
  repeat' first
    | exact trivial
    | exact h
    | exact ask_mv p _ h
    | split
theorem step_nx (p : Program) (m : Machine) : Nx m.world.drawn (step p m) := by
  have h := move_mv p m (Nat.le_refl _)
  unfold step stepT
  split
  · rename_i h2
    rw [h2] at h
    exact runT_nx p _ _ _ h
  · rename_i h2
    rw [h2] at h
    exact h
theorem runN_drawn (p : Program) : ∀ (n : Nat) (m m' : Machine), runN p n m = .next m' → m.world.drawn ≤ m'.world.drawn
  | 0, m, m', h => by unfold runN at h; injection h with h; rw [h]; exact Nat.le_refl _
  | n + 1, m, m', h => by
    unfold runN at h
    have hs := step_nx p m
    split at h
    · rename_i m2 h2
      rw [h2] at hs
      exact Nat.le_trans hs (runN_drawn p n _ _ h)
    · rename_i h2
      exact absurd h (h2 m')
theorem Steps.drawn {P : Program} {m m' : Machine} (h : Steps P m m') : m.world.drawn ≤ m'.world.drawn := by
  obtain ⟨n, hn⟩ := h
  exact runN_drawn P n m m' hn
/-- Draws only grow in a call that comes back. -/
theorem Calls.drawn {P : Program} {f : FuncId} {args : Array Value} {w : World} {R : Ending → World → Prop} (h : Calls P f args w R) :
    Calls P f args w fun e w' => R e w' ∧ (e = .outgrown ∨ w.drawn ≤ w'.drawn) := by
  intro cs
  obtain ⟨e, w', fr, r, c, h1, h2⟩ := h cs
  refine ⟨e, w', fr, ⟨r, ?_⟩, c, h1, h2⟩
  cases e with
  | outgrown => exact .inl rfl
  | returned v => exact .inr (Steps.drawn c)
  | panicked l => exact .inr (Steps.drawn c)
end Go.Proofs.Ytfkooohnaodjmaa
