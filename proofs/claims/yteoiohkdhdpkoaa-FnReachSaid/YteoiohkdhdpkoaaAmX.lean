/- A run's steps: the count of draws only grows. -/
import Derived.Calls
namespace Go.Am
open Go
set_option maxHeartbeats 4000000

theorem ask_drawn {α : Type} : ∀ (a : Ask α) (w : World), w.drawn ≤ (w.ask a).2.drawn
  | .done a, w => Nat.le_refl _
  | .ask what range k, w => by
    unfold World.ask
    dsimp only
    split
    · exact ask_drawn _ w
    · exact Nat.le_trans (Nat.le_succ _) (ask_drawn _ { w with drawn := w.drawn + 1 })

theorem sys_drawn (w : World) (c : Sys) : w.drawn ≤ (w.sys c).2.drawn := by
  unfold World.sys
  have h := ask_drawn (Kernel.perform c w.os) w
  split
  · exact Nat.le_refl _
  · rename_i e
    rw [e] at h
    exact h

theorem viewStore_drawn {p : Program} {w : World} {at_ : Addr} {u : TypeId} {k : Addr} {v : Value} {atomic : Bool} {r : World × List Addr} (h : w.viewStore p at_ u k v atomic = .ok r) : r.1.drawn = w.drawn := by
  unfold World.viewStore at h
  simp only [bind, Except.bind, pure, Except.pure] at h
  repeat' (split at h)
  all_goals first
    | (cases h; done)
    | (injection h with h; subst h; rfl)
    | trace_state

theorem farStore_drawn {p : Program} {w : World} {a : Addr} {v : Value} {atomic : Bool} {r : World × List Addr} (h : w.farStore p a v atomic = .ok r) : r.1.drawn = w.drawn := by
  unfold World.farStore at h
  split at h
  · split at h
    · rename_i e
      injection h with h
      subst h
      exact viewStore_drawn e
    · cases h
  · cases h

def resW {α : Type} : Result α → World
  | .ok _ w => w
  | .halt _ w => w

theorem freeze_drawn (w : World) (a : Addr) (n : Nat) : (w.freeze a n).drawn = w.drawn := by
  unfold World.freeze
  split <;> rfl

theorem runT_drawn {α : Type} (p : Program) : ∀ (s : Sem α) (w : World) (es : Array Event), w.drawn ≤ (resW (s.runT p w es).1).drawn
  | .pure a, w, es => Nat.le_refl _
  | .load m a k, w, es => by
    unfold Sem.runT
    split
    · exact runT_drawn p _ _ _
    · split
      · exact runT_drawn p _ _ _
      · exact Nat.le_refl _
  | .store m a v k, w, es => by
    cases v
    all_goals first
      | exact Nat.le_refl _
      | (unfold Sem.runT
         split
         · split
           · exact Nat.le_refl _
           · exact runT_drawn p k (w.setCell a _) _
         · split
           · rename_i e
             exact Nat.le_trans (Nat.le_of_eq (farStore_drawn e).symm) (runT_drawn p k _ _)
           · exact Nat.le_refl _)
  | .new o k, w, es => by
    unfold Sem.runT
    exact runT_drawn p (k _) { w with heap := w.heap.push o } es
  | .shape r k, w, es => by
    unfold Sem.runT
    exact runT_drawn p _ _ _
  | .freeze a n k, w, es => by
    unfold Sem.runT
    exact Nat.le_trans (Nat.le_of_eq (freeze_drawn w a n).symm) (runT_drawn p k _ _)
  | .frozen a k, w, es => by
    unfold Sem.runT
    exact runT_drawn p _ _ _
  | .getObj r k, w, es => by
    unfold Sem.runT
    split
    · exact Nat.le_refl _
    · exact runT_drawn p _ _ _
    · exact Nat.le_refl _
  | .setObj r o k, w, es => by
    unfold Sem.runT
    split
    · exact Nat.le_refl _
    · exact runT_drawn p k { w with heap := w.heap.setIfInBounds r o } _
    · exact Nat.le_refl _
  | .choose q k, w, es => by
    unfold Sem.runT
    split
    · exact runT_drawn p _ _ _
    · exact Nat.le_trans (Nat.le_succ _) (runT_drawn p _ { w with drawn := w.drawn + 1 } _)
  | .sys c k, w, es => by
    unfold Sem.runT
    exact Nat.le_trans (sys_drawn w c) (runT_drawn p _ _ _)
  | .program k, w, es => by
    unfold Sem.runT
    exact runT_drawn p _ _ _
  | .mark m k, w, es => by
    unfold Sem.runT
    exact runT_drawn p _ _ _
  | .halt h, w, es => Nat.le_refl _

theorem run_drawn {α : Type} (p : Program) : ∀ (s : Sem α) (w : World), w.drawn ≤ (resW (s.run p w)).drawn
  | .pure a, w => Nat.le_refl _
  | .load m a k, w => by
    unfold Sem.run
    split
    · exact run_drawn p _ _
    · split
      · exact run_drawn p _ _
      · exact Nat.le_refl _
  | .store m a v k, w => by
    cases v
    all_goals first
      | exact Nat.le_refl _
      | (unfold Sem.run
         split
         · split
           · exact Nat.le_refl _
           · exact run_drawn p k (w.setCell a _)
         · split
           · rename_i e
             exact Nat.le_trans (Nat.le_of_eq (farStore_drawn e).symm) (run_drawn p k _)
           · exact Nat.le_refl _)
  | .new o k, w => by
    unfold Sem.run
    exact run_drawn p (k _) { w with heap := w.heap.push o }
  | .shape r k, w => by
    unfold Sem.run
    exact run_drawn p _ _
  | .freeze a n k, w => by
    unfold Sem.run
    exact Nat.le_trans (Nat.le_of_eq (freeze_drawn w a n).symm) (run_drawn p k _)
  | .frozen a k, w => by
    unfold Sem.run
    exact run_drawn p _ _
  | .getObj r k, w => by
    unfold Sem.run
    split
    · exact Nat.le_refl _
    · exact run_drawn p _ _
    · exact Nat.le_refl _
  | .setObj r o k, w => by
    unfold Sem.run
    split
    · exact Nat.le_refl _
    · exact run_drawn p k { w with heap := w.heap.setIfInBounds r o }
    · exact Nat.le_refl _
  | .choose q k, w => by
    unfold Sem.run
    split
    · exact run_drawn p _ _
    · exact Nat.le_trans (Nat.le_succ _) (run_drawn p _ { w with drawn := w.drawn + 1 })
  | .sys c k, w => by
    unfold Sem.run
    exact Nat.le_trans (sys_drawn w c) (run_drawn p _ _)
  | .program k, w => by
    unfold Sem.run
    exact run_drawn p _ _
  | .mark m k, w => by
    unfold Sem.run
    exact run_drawn p _ _
  | .halt h, w => Nat.le_refl _

def gW : GStep → World
  | .go _ w _ => w
  | .comm _ _ _ _ w _ => w
  | .spawn _ _ w _ => w
  | .count _ w _ => w
  | .timer _ _ w _ => w
  | .alone _ _ w _ => w
  | .newcoro _ _ _ w _ => w
  | .coroswitch _ _ _ w _ => w
  | .collect _ w _ => w
  | .watch _ w _ => w
  | .ended _ w _ => w
theorem after_w (es : Array Event) (s : GStep) : gW (GStep.after es s) = gW s := by cases s <;> rfl

theorem endThrow_le (fr : Frame) (m : String) (w : World) : w.drawn ≤ (gW (endThrow fr m w)).drawn := Nat.le_refl _
theorem endWith_le (w : World) (fd : Nat) (text : ByteArray) (o : Outcome) : w.drawn ≤ (gW (endWith w fd text o)).drawn := by
  unfold endWith
  have h0 := sys_drawn w (.write fd text)
  revert h0
  generalize w.sys (.write fd text) = q
  obtain ⟨r, w'⟩ := q
  intro h0
  dsimp only
  split
  · rename_i e
    cases e
    split <;> exact h0
  · rename_i e; cases e; exact h0
  · rename_i e; cases e; exact h0
theorem endPrinting_le (p : Program) (fr : Frame) (v : Value) (w : World) : w.drawn ≤ (gW (endPrinting p fr v w)).drawn := by
  unfold endPrinting
  dsimp only
  split
  · exact endThrow_le _ _ _
  · exact Nat.le_refl _
theorem endFatal_le (p : Program) (fr : Frame) (callers : List Frame) (dying : Option Dying) (m : String) (w : World) : w.drawn ≤ (gW (endFatal p fr callers dying m w)).drawn := by
  unfold endFatal
  extract_lets chain raw shown
  have h0 := run_drawn p shown w
  revert h0
  generalize shown.run p w = q
  intro h0
  cases q with
  | ok a w' => exact h0
  | halt h w' =>
    split
    · rename_i e; cases e
    · rename_i e; cases e; exact h0
    · rename_i e; cases e; exact h0
theorem writeOn_le (p : Program) (fr : Frame) (d : Dying) (f : Fatal) (w : World) : w.drawn ≤ (gW (writeOn p fr d f w)).drawn := by
  unfold writeOn
  extract_lets on
  split
  · exact Nat.le_refl _
  · extract_lets write
    split
    all_goals
      rename_i e
      exact Nat.le_trans (runT_drawn p _ w #[]) (Nat.le_of_eq (congrArg (fun q => (resW q.1).drawn) e))
theorem die_le (p : Program) (fr : Frame) (d : Dying) (w : World) : w.drawn ≤ (gW (die p fr d w)).drawn := by
  unfold die
  split
  · exact writeOn_le _ _ _ _ _
  · split
    · split
      · exact Nat.le_refl _
      · exact endWith_le _ _ _ _
    · extract_lets d
      split
      · exact Nat.le_refl _
      · rename_i s _
        have h0 := run_drawn p (withAddress s) w
        revert h0
        generalize (withAddress s).run p w = q
        intro h0
        cases q with
        | ok a w' => exact h0
        | halt h w' => exact h0
      · rename_i t recv name _
        have h0 := runT_drawn p (invoke (.fn (.method name) #[]) #[.iface t recv]) w #[]
        revert h0
        generalize (invoke (.fn (.method name) #[]) #[.iface t recv]).runT p w #[] = q
        obtain ⟨r, es⟩ := q
        intro h0
        dsimp only
        rw [after_w]
        split
        · exact h0
        · exact h0
        · exact h0
        · exact Nat.le_trans h0 (endPrinting_le _ _ _ _)
        · exact Nat.le_refl _
      · exact Nat.le_refl _
theorem doReturn_le (p : Program) (main : Bool) (fr : Frame) (callers : List Frame) (dying : Option Dying) (v : Value) (w : World) : w.drawn ≤ (gW (doReturn p main fr callers dying v w)).drawn := by
  unfold doReturn
  repeat' split
  all_goals exact Nat.le_refl _
theorem callDeferred_le (p : Program) (fr : Frame) (callers : List Frame) (dying : Option Dying) (d : Deferred) (w : World) : w.drawn ≤ (gW (callDeferred p fr callers dying d w)).drawn := by
  unfold callDeferred
  have h0 := runT_drawn p (invoke d.target d.args) w #[]
  revert h0
  generalize (invoke d.target d.args).runT p w #[] = q
  obtain ⟨r, es⟩ := q
  intro h0
  dsimp only
  refine (fun (c : Bool) (A B : GStep) (hA : w.drawn ≤ (gW A).drawn) (hB : w.drawn ≤ (gW B).drawn) => show w.drawn ≤ (gW (if c then A else B)).drawn from by cases c; exact hB; exact hA) _ _ _ (Nat.le_refl _) ?_
  rw [after_w]
  repeat' split
  all_goals first
    | exact h0
    | exact Nat.le_trans h0 (endFatal_le _ _ _ _ _ _)
    | exact Nat.le_trans h0 (endThrow_le _ _ _)
    | trace_state
theorem unwind_le (p : Program) (main : Bool) (fr : Frame) (callers : List Frame) (dying : Option Dying) (w : World) : w.drawn ≤ (gW (unwind p main fr callers dying w)).drawn := by
  unfold unwind
  split
  · rename_i block _ _ _
    have h0 := runT_drawn p (Instr.takeDeferred block) w #[]
    revert h0
    generalize (Instr.takeDeferred block).runT p w #[] = q
    obtain ⟨r, es⟩ := q
    intro h0
    dsimp only
    rw [after_w]
    split <;> exact h0
  · exact callDeferred_le _ _ _ _ _ _
  · split
    · exact Nat.le_refl _
    · split
      · exact Nat.le_refl _
      · split
        · exact Nat.le_refl _
        · split
          · split
            · exact Nat.le_refl _
            · split
              all_goals
                rename_i e
                exact Nat.le_trans (run_drawn p _ w) (Nat.le_of_eq (congrArg (fun q => (resW q).drawn) e))
          · split
            · exact endPrinting_le _ _ _ _
            · exact Nat.le_refl _
    · split
      · exact doReturn_le _ _ _ _ _ _ _
      · rename_i fn _
        have h0 := runT_drawn p (results fn fr.tmps) w #[]
        revert h0
        generalize (results fn fr.tmps).runT p w #[] = q
        obtain ⟨r, es⟩ := q
        intro h0
        dsimp only
        rw [after_w]
        split
        · exact Nat.le_trans h0 (doReturn_le _ _ _ _ _ _ _)
        · exact h0
        · exact h0
theorem early_le (p : Program) (fr : Frame) (callers : List Frame) (dying : Option Dying) (g : Nat) (w : World) : w.drawn ≤ (gW (early p fr callers dying g w)).drawn := by
  have hN : ∀ w1 : World, w1.drawn ≤ (gW (match w1.heap[g]? with
    | some (.pending c elem) => .go { frame := fr, callers, status := .running, dying } { w1 with heap := w1.heap.setIfInBounds g (.cells c elem) }
    | _ => .ended (.stuck "early: the variable does not wait" (fr.pos p)) w1)).drawn := fun w1 => by
    split <;> exact Nat.le_refl _
  unfold early
  extract_lets refuse notYet
  split
  · exact hN w
  · split
    · exact Nat.le_refl _
    · extract_lets there
      have h0 := run_drawn p (choose (.early g)) w
      repeat' split
      all_goals first
        | exact hN w
        | exact Nat.le_refl _
        | (rename_i e; rw [e] at h0; exact Nat.le_trans h0 (hN _))
        | (rename_i e; rw [e] at h0; exact h0)
        | (rename_i e _; rw [e] at h0; exact h0)
        | trace_state
theorem apply_le (p : Program) (listen : Bool) (fr : Frame) (callers : List Frame) (dying : Option Dying) (s : Sem Next) (w : World) : w.drawn ≤ (gW (stepG.apply p listen fr callers dying s w)).drawn := by
  unfold stepG.apply
  extract_lets go kind
  have h0 : w.drawn ≤ (resW (if listen = true then s.runT p w #[] else (s.run p w, #[])).1).drawn := by
    cases listen
    · exact run_drawn p s w
    · exact runT_drawn p s w #[]
  revert h0
  generalize (if listen = true then s.runT p w #[] else (s.run p w, #[])) = q
  obtain ⟨r, es⟩ := q
  intro h0
  dsimp only
  rw [after_w]
  repeat' split
  all_goals first
    | exact h0
    | exact Nat.le_trans h0 (endFatal_le _ _ _ _ _ _)
    | exact Nat.le_trans h0 (endThrow_le _ _ _)
    | exact Nat.le_trans h0 (early_le _ _ _ _ _ _)
    | trace_state
theorem of_runT {α : Type} {p : Program} {s : Sem α} {w : World} {es : Array Event} {q : Result α × Array Event} (e : s.runT p w es = q) : w.drawn ≤ (resW q.1).drawn := by
  rw [← e]; exact runT_drawn p s w es
theorem of_run {α : Type} {p : Program} {s : Sem α} {w : World} {q : Result α} (e : s.run p w = q) : w.drawn ≤ (resW q).drawn := by
  rw [← e]; exact run_drawn p s w
theorem of_runT1 {α : Type} {p : Program} {s : Sem α} {w : World} {es : Array Event} {q : Result α} (e : (s.runT p w es).1 = q) : w.drawn ≤ (resW q).drawn := by
  rw [← e]; exact runT_drawn p s w es
theorem elim_le {α : Type} (w : World) (o : Option α) (a : GStep) (f : α → GStep) (ha : w.drawn ≤ (gW a).drawn) (hf : ∀ x, w.drawn ≤ (gW (f x)).drawn) : w.drawn ≤ (gW (o.elim a f)).drawn := by
  cases o
  · exact ha
  · exact hf _
theorem oper_le (p : Program) (listen : Bool) (fr : Frame) (callers : List Frame) (dying : Option Dying) (w : World) : w.drawn ≤ (gW (stepG.oper p listen fr callers dying w)).drawn := by
  unfold stepG.oper
  repeat' split
  all_goals first
    | exact Nat.le_refl _
    | exact apply_le _ _ _ _ _ _ _
theorem exec_le (p : Program) (main : Bool) (listen : Bool) (fr : Frame) (callers : List Frame) (dying : Option Dying) (w : World) : w.drawn ≤ (gW (stepG.exec p main listen fr callers dying w)).drawn := by
  unfold stepG.exec
  extract_lets go to lost leave
  have hleave : ∀ j, w.drawn ≤ (gW (leave j)).drawn := fun j => by
    simp only [leave]
    split
    · split <;> exact Nat.le_refl _
    · rw [after_w]
      split
      all_goals
        rename_i e
        first
          | exact of_runT1 e
          | exact Nat.le_trans (of_runT1 e) (doReturn_le _ _ _ _ _ _ _)
  clear_value leave
  have hto : ∀ t, w.drawn ≤ (gW (to t)).drawn := fun t => Nat.le_refl _
  repeat' split
  all_goals first
    | exact Nat.le_refl _
    | exact hleave _
    | exact apply_le _ _ _ _ _ _ _
    | exact oper_le _ _ _ _ _ _
    | exact elim_le w _ _ _ (hleave _) hto
    | exact elim_le w _ _ _ (Nat.le_refl _) (fun _ => apply_le _ _ _ _ _ _ _)
    | (rename_i e; exact of_run e)
    | (rename_i e; rw [after_w]; exact of_runT1 e)
    | (rename_i e; rw [after_w]; exact of_runT e)
    | (rename_i e; rw [after_w]; exact Nat.le_trans (of_runT e) (apply_le _ _ _ _ _ _ _))
    | (rename_i e; rw [after_w]; exact Nat.le_trans (of_runT1 e) (apply_le _ _ _ _ _ _ _))
    | (rename_i e; exact Nat.le_trans (of_run e) (apply_le _ _ _ _ _ _ _))
    | trace_state
theorem stepG_le (p : Program) (main : Bool) (g : Goroutine) (w : World) (listen : Bool) : w.drawn ≤ (gW (stepG p main g w listen)).drawn := by
  unfold stepG
  split
  split
  · exact die_le _ _ _ _
  · exact exec_le _ _ _ _ _ _ _
  · exact unwind_le _ _ _ _ _ _

def stW : Stepped → Option World
  | .next m => some m.world
  | .ended _ _ => none
def stLe (n : Nat) (s : Stepped) : Prop := ∀ w, stW s = some w → n ≤ w.drawn
theorem stLe_end (n : Nat) (o : Outcome) (w : World) : stLe n (.ended o w) := fun _ h => by cases h
theorem stLe_next {n : Nat} {m : Machine} (h : n ≤ m.world.drawn) : stLe n (.next m) := fun _ e => by cases e; exact h

theorem communicate_le (p : Program) (rest : Rest) (gs : Array Goroutine) (i : Nat) (g : Goroutine) (cases : Array CommCase) (blocking : Bool) (shape : CommShape) (w : World) :
    stLe w.drawn (communicate p rest gs i g cases blocking shape w).1 := by
  unfold communicate
  extract_lets put illMade me other ready pick
  split
  · exact stLe_end _ _ _
  · split
    · split
      · split
        · rename_i e
          refine stLe_next ?_
          unfold waitingAt at e
          split at e
          · split at e
            · injection e with e; subst e; exact Nat.le_refl _
            · cases e
          · injection e with e; subst e; exact Nat.le_refl _
        · exact stLe_end _ _ _
      · exact stLe_next (Nat.le_refl _)
    · split
      · exact stLe_end _ _ _
      · rename_i e
        have h0 := of_run e
        extract_lets r
        clear_value r
        split
        · split
          · rename_i e2
            exact stLe_next (Nat.le_trans h0 (of_run e2))
          · exact stLe_end _ _ _
        · exact stLe_next h0
        · exact stLe_next h0
        · extract_lets v buf
          split
          · exact stLe_next h0
          · split
            · rename_i e2
              exact stLe_next (Nat.le_trans h0 (of_run e2))
            · exact stLe_end _ _ _
        · exact stLe_next h0
        · exact stLe_next h0
        · exact stLe_end _ _ _
theorem look_le (p : Program) (gs : Array Goroutine) (rest : Rest) (w : World) : stLe w.drawn (look p gs rest w) := by
  unfold look
  split
  · split
    extract_lets set
    split
    split
    · exact stLe_end _ _ _
    · split
      · exact stLe_end _ _ _
      · extract_lets pick
        split
        · rename_i e
          exact stLe_next (of_run e)
        · exact stLe_end _ _ _
        · exact stLe_end _ _ _
  · exact stLe_end _ _ _
theorem serve_le (p : Program) (m : Machine) (k : Nat) : stLe m.world.drawn (serve p m k) := by
  unfold serve
  split
  · exact stLe_end _ _ _
  · exact stLe_next (Nat.le_refl _)
  · extract_lets delay next
    split
    · exact stLe_end _ _ _
    · exact stLe_next (Nat.le_refl _)
theorem drain_drawn (w : World) (c : Nat) : (drain w c).2.drawn = w.drawn := by
  unfold drain
  split <;> rfl
theorem retime_drawn (m : Machine) (k : Nat) (t : Timer) (a b : Nat) : (retime m k t a b).2.world.drawn = m.world.drawn := by
  unfold retime
  cases t.chan with
  | none => rfl
  | some c => exact drain_drawn m.world c
theorem opened_drawn {m m' : Machine} {var : Addr} (h : timerOp.opened m var = some m') : m'.world.drawn = m.world.drawn := by
  unfold timerOp.opened at h
  split at h
  · split at h
    · injection h with h; subst h; rfl
    · cases h
  · injection h with h; subst h; rfl
theorem named_drawn {m : Machine} {var : Addr} {f : Nat → Timer → Value × Machine} {n : Nat} (hf : ∀ k t, (f k t).2.world.drawn = n) {r : Value × Machine} (h : timerOp.named m var f = .ok r) : r.2.world.drawn = n := by
  unfold timerOp.named at h
  split at h
  · injection h with h; subst h; exact hf _ _
  · cases h
theorem timerOp_drawn {m : Machine} {op : TimerOp} {r : Value × Machine} (h : timerOp m op = .ok r) : r.2.world.drawn = m.world.drawn := by
  unfold timerOp at h
  split at h
  · split at h
    · injection h with h; subst h; rfl
    · split at h
      · split at h
        · cases h
        · injection h with h; subst h; rfl
      · cases h
  · exact named_drawn (fun k t => retime_drawn _ _ _ _ _) h
  · split at h
    · rename_i e
      exact named_drawn (fun k t => (retime_drawn _ _ _ _ _).trans (opened_drawn e)) h
    · cases h
  · injection h with h; subst h; rfl

theorem stLe_mono {n n' : Nat} {s : Stepped} (hn : n ≤ n') (h : stLe n' s) : stLe n s := fun w e => Nat.le_trans hn (h w e)
theorem runG_le (p : Program) (m : Machine) (i : Nat) (listen : Bool) : stLe m.world.drawn (Go.runT p m i listen).1 := by
  unfold Go.runT
  extract_lets rest world
  split
  extract_lets wake fn pos s ops done
  have h0 : m.world.drawn ≤ (gW s).drawn := stepG_le _ _ _ _ _
  clear_value s ops
  cases s with
  | ended o w es => exact stLe_end _ _ _
  | comm g cases blocking shape w es =>
    have h1 := communicate_le p rest ‹Array Goroutine› i g cases blocking shape w
    revert h1
    dsimp only
    generalize communicate p rest ‹Array Goroutine› i g cases blocking shape w = q
    obtain ⟨r, more⟩ := q
    intro h1
    exact stLe_mono h0 h1
  | go g w es => exact stLe_next h0
  | spawn g child w es => exact stLe_next h0
  | count g w es =>
    dsimp only [done]
    split
    · exact stLe_end _ _ _
    · exact stLe_next h0
  | alone g on w es => exact stLe_next h0
  | collect g w es => exact stLe_mono h0 (look_le p _ rest w)
  | watch g w es => exact stLe_next h0
  | newcoro g c d w es => exact stLe_next h0
  | coroswitch g c exit w es =>
    dsimp only [done]
    split
    · exact stLe_next h0
    · exact stLe_next h0
    · exact stLe_end _ _ _
  | timer g op w es =>
    dsimp only [done]
    split
    · rename_i e
      exact stLe_next (Nat.le_trans h0 (Nat.le_of_eq (timerOp_drawn e).symm))
    · exact stLe_next h0
    · exact stLe_end _ _ _
    · exact stLe_end _ _ _
def mvLe (n : Nat) : Move → Prop
  | .goroutine m _ => n ≤ m.world.drawn
  | .machine s _ => stLe n s
theorem mvLe_mono {n n' : Nat} {v : Move} (hn : n ≤ n') (h : mvLe n' v) : mvLe n v := by
  cases v with
  | goroutine m i => exact Nat.le_trans hn h
  | machine s o => exact stLe_mono hn h
theorem askOn_le (p : Program) (m : Machine) : mvLe m.world.drawn (askOn p m) := by
  unfold askOn
  extract_lets mono rs ds pick
  have hpick : ∀ m1 : Machine, mvLe m1.world.drawn (pick m1) := fun m1 => by
    simp only [pick]
    split
    · exact stLe_end _ _ _
    · rename_i e
      have h0 := of_run e
      split
      · exact h0
      · split
        · exact stLe_end _ _ _
        · rename_i e2
          exact Nat.le_trans h0 (of_run e2)
  clear_value pick
  split
  · exact stLe_end _ _ _
  · rename_i e
    have h0 := of_run e
    extract_lets m1 msg
    have hm1 : m.world.drawn ≤ m1.world.drawn := h0
    split
    · exact stLe_mono hm1 (serve_le p _ _)
    · clear e h0
      clear_value msg ds rs
      cases rs with
      | nil =>
        dsimp only
        split
        · exact stLe_next hm1
        · split
          · exact stLe_next hm1
          · split
            · exact stLe_end _ _ _
            · exact stLe_end _ _ _
      | cons r0 rr =>
        dsimp only
        split
        · exact mvLe_mono hm1 (hpick m1)
        · split
          · exact stLe_end _ _ _
          · rename_i e2
            exact mvLe_mono (Nat.le_trans hm1 (of_run e2)) (hpick _)
          · rename_i e2
            exact stLe_next (Nat.le_trans hm1 (of_run e2))
          · rename_i e2
            exact mvLe_mono (Nat.le_trans hm1 (of_run e2)) (hpick _)
theorem ask_le (p : Program) (m : Machine) : mvLe m.world.drawn (Go.ask p m) := by
  unfold Go.ask
  split
  · split
    · exact stLe_end _ _ _
    · rename_i e
      have h0 := of_run e
      split
      · rename_i e2
        have h1 := look_le p m.gs m.rest ‹World›
        rw [e2] at h1
        exact mvLe_mono (Nat.le_trans h0 (h1 _ rfl)) (askOn_le p _)
      · rename_i w1 _ _
        exact stLe_mono h0 (look_le p m.gs m.rest w1)
    · rename_i e
      exact mvLe_mono (of_run e) (askOn_le p _)
  · exact askOn_le p m
theorem move_le (p : Program) (m : Machine) : mvLe m.world.drawn (move p m) := by
  unfold move
  split
  · split
    · exact Nat.le_refl _
    · exact stLe_end _ _ _
  · split
    · split
      · exact Nat.le_refl _
      · exact ask_le p { m with rest := { m.rest with slice := none } }
    · exact ask_le p m
theorem step_le (p : Program) (m m' : Machine) (h : step p m = .next m') : m.world.drawn ≤ m'.world.drawn := by
  unfold step stepT at h
  have h0 := move_le p m
  revert h
  generalize move p m = v at h0
  intro h
  cases v with
  | goroutine m1 i =>
    have h1 := runG_le p m1 i true
    rw [show (Go.runT p m1 i true).1 = .next m' from h] at h1
    exact Nat.le_trans h0 (h1 _ rfl)
  | machine s o =>
    have h2 : s = .next m' := h
    subst h2
    exact h0 _ rfl
theorem runN_le (p : Program) : ∀ (n : Nat) (m m' : Machine), runN p n m = .next m' → m.world.drawn ≤ m'.world.drawn
  | 0, m, m', h => by
    simp only [runN] at h
    injection h with h
    subst h
    exact Nat.le_refl _
  | n + 1, m, m', h => by
    simp only [runN] at h
    cases hs : step p m with
    | next m1 =>
      rw [hs] at h
      exact Nat.le_trans (step_le p m m1 hs) (runN_le p n m1 m' h)
    | ended o w => rw [hs] at h; cases h
theorem steps_le {p : Program} {m m' : Machine} (h : Steps p m m') : m.world.drawn ≤ m'.world.drawn := by
  obtain ⟨n, hn⟩ := h
  exact runN_le p n m m' hn
/-- A call that returns lowers no count of draws. -/
theorem calls_drawn {p : Program} {f : FuncId} {args : Array Value} {w : World} {R : Ending → World → Prop} (h : Calls p f args w R) : Calls p f args w fun e w' => R e w' ∧ ∀ v, e = .returned v → w.drawn ≤ w'.drawn := fun cs => by
  obtain ⟨e, w', fr, h1, h2, h3, h4⟩ := h cs
  refine ⟨e, w', fr, ⟨h1, fun v hv => ?_⟩, h2, h3, h4⟩
  subst hv
  exact steps_le h2
end Go.Am

