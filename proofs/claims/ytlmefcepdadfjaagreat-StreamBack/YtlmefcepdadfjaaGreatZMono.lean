/- A run never asks fewer questions than it has asked: the count of draws never falls. No program is named here. -/
import Derived.Lone
import Derived.Calls
import Derived.Below
namespace Go.Proofs.YtlmefcepdadfjaaGreat
open Go

def Result.world {α : Type} : Result α → World
  | .ok _ w => w
  | .halt _ w => w
theorem ask_drawn {α : Type} : ∀ (A : Ask α) (w : World), w.drawn ≤ (w.ask A).2.drawn
  | .done a, w => by unfold World.ask; exact Nat.le_refl _
  | .ask what range k, w => by
    unfold World.ask
    simp only []
    split
    · exact ask_drawn (k 0) w
    · exact Nat.le_trans (Nat.le_succ _) (ask_drawn (k _) { w with drawn := w.drawn + 1 })
theorem sys_drawn (w : World) (c : Sys) : w.drawn ≤ (w.sys c).2.drawn := by
  have h := ask_drawn (Kernel.perform c w.os) w
  unfold World.sys
  split
  · exact Nat.le_refl _
  · rename_i r os w' he
    rw [he] at h
    exact h
theorem viewStore_drawn {p : Program} {w w' : World} {x : Addr} {u : TypeId} {k : Addr} {v : Value} {b : Bool} {l : List Addr} (h : w.viewStore p x u k v b = .ok (w', l)) : w.drawn = w'.drawn := by
  unfold World.viewStore at h
  simp only [bind, Except.bind, pure, Except.pure] at h
  repeat' first
    | (simp at h; done)
    | (simp only [Except.ok.injEq, Prod.mk.injEq] at h; rw [← h.1]; done)
    | split at h
theorem farStore_drawn {p : Program} {w w' : World} {a : Addr} {v : Value} {b : Bool} {l : List Addr} (h : w.farStore p a v b = .ok (w', l)) : w.drawn = w'.drawn := by
  unfold World.farStore at h
  split at h
  · split at h
    · rename_i r hr
      simp only [Except.ok.injEq] at h
      subst h
      exact viewStore_drawn hr
    · cases h
  · cases h
theorem run_drawn {α : Type} (p : Program) : ∀ (s : Sem α) (w : World), w.drawn ≤ (Result.world (s.run p w)).drawn := by
  intro s
  induction s with
  | pure a => intro w; exact Nat.le_refl _
  | load m a k ih =>
    intro w
    simp only [Sem.run]
    split
    · exact ih _ w
    · split
      · exact ih _ w
      · exact Nat.le_refl _
  | store m a v k ih =>
    intro w
    cases v <;> simp only [Sem.run] <;> first
      | exact Nat.le_refl _
      | (split
         · split
           · exact Nat.le_refl _
           · exact ih (w.setCell a _)
         · split
           · rename_i hf
             rw [farStore_drawn hf]
             exact ih _
           · exact Nat.le_refl _)
  | new o k ih => intro w; exact ih _ { w with heap := w.heap.push o }
  | shape r k ih => intro w; exact ih _ w
  | freeze a n k ih =>
    intro w
    have h : (w.freeze a n).drawn = w.drawn := by unfold World.freeze; split <;> rfl
    rw [← h]
    exact ih (w.freeze a n)
  | frozen a k ih => intro w; exact ih _ w
  | getObj r k ih =>
    intro w
    simp only [Sem.run]
    split
    · exact Nat.le_refl _
    · exact ih _ w
    · exact Nat.le_refl _
  | setObj r o k ih =>
    intro w
    simp only [Sem.run]
    split
    · exact Nat.le_refl _
    · exact ih { w with heap := w.heap.setIfInBounds r o }
    · exact Nat.le_refl _
  | choose q k ih =>
    intro w
    simp only [Sem.run]
    split
    · exact ih _ w
    · exact Nat.le_trans (Nat.le_succ _) (ih _ { w with drawn := w.drawn + 1 })
  | sys c k ih => intro w; exact Nat.le_trans (sys_drawn w c) (ih _ _)
  | program k ih => intro w; exact ih _ w
  | mark m k ih => intro w; exact ih w
  | halt h => intro w; exact Nat.le_refl _
theorem run_ok {α : Type} {p : Program} {s : Sem α} {w w' : World} {a : α} (h : s.run p w = .ok a w') : w.drawn ≤ w'.drawn := by
  have := run_drawn p s w; rw [h] at this; exact this
theorem run_halt {α : Type} {p : Program} {s : Sem α} {w w' : World} {a : Halt} (h : s.run p w = .halt a w') : w.drawn ≤ w'.drawn := by
  have := run_drawn p s w; rw [h] at this; exact this
def After (d : Nat) : GStep → Prop
  | .go _ w _ => d ≤ w.drawn
  | .comm _ _ _ _ w _ => d ≤ w.drawn
  | .spawn _ _ w _ => d ≤ w.drawn
  | .count _ w _ => d ≤ w.drawn
  | .timer _ _ w _ => d ≤ w.drawn
  | .alone _ _ w _ => d ≤ w.drawn
  | .newcoro _ _ _ w _ => d ≤ w.drawn
  | .coroswitch _ _ _ w _ => d ≤ w.drawn
  | .collect _ w _ => d ≤ w.drawn
  | .watch _ w _ => d ≤ w.drawn
  | .ended _ _ _ => True
theorem after_after {d : Nat} {es : Array Event} {s : GStep} (h : After d s) : After d (GStep.after es s) := by cases s <;> exact h
theorem After.le {d e : Nat} (h : d ≤ e) : ∀ {s : GStep}, After e s → After d s
  | .go _ _w _, k => Nat.le_trans h k
  | .comm _ _ _ _ _w _, k => Nat.le_trans h k
  | .spawn _ _ _w _, k => Nat.le_trans h k
  | .count _ _w _, k => Nat.le_trans h k
  | .timer _ _ _w _, k => Nat.le_trans h k
  | .alone _ _ _w _, k => Nat.le_trans h k
  | .newcoro _ _ _ _w _, k => Nat.le_trans h k
  | .coroswitch _ _ _ _w _, k => Nat.le_trans h k
  | .collect _ _w _, k => Nat.le_trans h k
  | .watch _ _w _, k => Nat.le_trans h k
  | .ended _ _ _, _ => trivial
theorem dieOf_after (fr : Frame) (l : List ByteArray) (m : String) (b : Bool) (w : World) : After w.drawn (dieOf fr l m b w) := Nat.le_refl _
theorem endThrow_after (fr : Frame) (m : String) (w : World) : After w.drawn (endThrow fr m w) := Nat.le_refl _
theorem endPrinting_after (p : Program) (fr : Frame) (v : Value) (w : World) : After w.drawn (endPrinting p fr v w) := by
  unfold endPrinting
  simp only []
  split
  · exact endThrow_after _ _ _
  · trivial
theorem endWith_after (d : Nat) (w : World) (n : Nat) (t : ByteArray) (o : Outcome) : After d (endWith w n t o) := by
  unfold endWith
  simp only []
  split
  · split <;> trivial
  · trivial
  · trivial
theorem endFatal_after (p : Program) (fr : Frame) (cs : List Frame) (d : Option Dying) (m : String) (w : World) : After w.drawn (endFatal p fr cs d m w) := by
  unfold endFatal
  simp only []
  split
  · rename_i h
    exact (dieOf_after _ _ _ _ _).le (run_ok h)
  · trivial
  · trivial
theorem writeOn_after (p : Program) (fr : Frame) (d : Dying) (f : Fatal) (w : World) : After w.drawn (writeOn p fr d f w) := by
  unfold writeOn
  simp only [Sem.runT_eq]
  split
  · trivial
  · split
    · rename_i h
      simp only [Prod.mk.injEq] at h
      exact run_ok h.1
    · rename_i h
      simp only [Prod.mk.injEq] at h
      exact run_halt h.1
    · trivial
    · trivial
theorem die_after (p : Program) (fr : Frame) (d : Dying) (w : World) : After w.drawn (die p fr d w) := by
  unfold die
  simp only [Sem.runT_eq]
  split
  · exact writeOn_after _ _ _ _ _
  · split
    · split
      · exact Nat.le_refl _
      · exact endWith_after _ _ _ _ _
    · split
      · exact Nat.le_refl _
      · split
        · rename_i h; exact run_ok h
        · trivial
      · refine after_after ?_
        split
        · rename_i h; exact run_ok h
        · rename_i h; exact run_ok h
        · trivial
        · rename_i h; exact (endPrinting_after _ _ _ _).le (run_halt h)
        · trivial
      · trivial
theorem doReturn_after (p : Program) (b : Bool) (fr : Frame) (cs : List Frame) (d : Option Dying) (v : Value) (w : World) : After w.drawn (doReturn p b fr cs d v w) := by
  unfold doReturn
  repeat' first
    | exact Nat.le_refl _
    | trivial
    | split
theorem ite_after {d : Nat} {c : Prop} [Decidable c] {a b : GStep} (h1 : After d a) (h2 : After d b) : After d (if c then a else b) := by
  split
  · exact h1
  · exact h2
theorem callDeferred_after (p : Program) (fr : Frame) (cs : List Frame) (d : Option Dying) (x : Deferred) (w : World) : After w.drawn (callDeferred p fr cs d x w) := by
  unfold callDeferred
  simp only [Sem.runT_eq]
  refine ite_after trivial (after_after ?_)
  repeat' first
    | trivial
    | exact run_ok (by assumption)
    | exact run_halt (by assumption)
    | exact (endFatal_after _ _ _ _ _ _).le (run_halt (by assumption))
    | exact (endThrow_after _ _ _).le (run_halt (by assumption))
    | split
theorem unwind_after (p : Program) (b : Bool) (fr : Frame) (cs : List Frame) (d : Option Dying) (w : World) : After w.drawn (unwind p b fr cs d w) := by
  unfold unwind
  simp only [Sem.runT_eq]
  repeat' first
    | exact Nat.le_refl _
    | trivial
    | exact callDeferred_after _ _ _ _ _ _
    | exact doReturn_after _ _ _ _ _ _ _
    | exact endPrinting_after _ _ _ _
    | (rename_i h; exact run_ok h)
    | (rename_i h; exact (doReturn_after _ _ _ _ _ _ _).le (run_ok h))
    | refine after_after ?_
    | split
theorem early_after (p : Program) (fr : Frame) (cs : List Frame) (d : Option Dying) (g : Nat) (w : World) : After w.drawn (early p fr cs d g w) := by
  unfold early
  simp only []
  repeat' first
    | exact Nat.le_refl _
    | trivial
    | exact run_ok (by assumption)
    | (have h := run_ok ‹Sem.run p (choose (Question.early g)) w = Result.ok _ _›; exact h)
    | split
theorem apply_after (p : Program) (fr : Frame) (cs : List Frame) (d : Option Dying) (s : Sem Next) (w : World) (b : Bool) : After w.drawn (stepG.apply p b fr cs d s w) := by
  unfold stepG.apply
  simp only [Sem.runT_eq]
  have hb : ∀ x : Array Event, (if b = true then (s.run p w, x) else (s.run p w, #[])).1 = s.run p w := fun x => by split <;> rfl
  simp only [hb]
  refine after_after ?_
  repeat' first
    | trivial
    | exact run_ok (by assumption)
    | exact run_halt (by assumption)
    | exact (endFatal_after _ _ _ _ _ _).le (run_halt (by assumption))
    | exact (endThrow_after _ _ _).le (run_ok (by assumption))
    | exact (endThrow_after _ _ _).le (run_halt (by assumption))
    | exact (early_after _ _ _ _ _ _).le (run_halt (by assumption))
    | split
theorem elim_after {d : Nat} {α : Type} {o : Option α} {a : GStep} {f : α → GStep} (h1 : After d a) (h2 : ∀ x, After d (f x)) : After d (o.elim a f) := by
  cases o with
  | none => exact h1
  | some x => exact h2 x
theorem oper_after (p : Program) (fr : Frame) (cs : List Frame) (d : Option Dying) (w : World) (b : Bool) : After w.drawn (stepG.oper p b fr cs d w) := by
  unfold stepG.oper
  repeat' first
    | trivial
    | exact apply_after _ _ _ _ _ _ _
    | split
set_option maxHeartbeats 4000000 in
theorem exec_after (p : Program) (m : Bool) (fr : Frame) (cs : List Frame) (d : Option Dying) (w : World) (b : Bool) : After w.drawn (stepG.exec p m b fr cs d w) := by
  unfold stepG.exec
  simp only [Sem.runT_eq]
  have leave : ∀ (l : Nat) (j : Option Code), After w.drawn (GStep.after (seen p fr.fn (Sem.events p (Instr.endRound l j) w #[])) (match Sem.run p (Instr.endRound l j) w with
      | .ok v w => doReturn p m fr cs d v w
      | .halt _ w => .ended (.stuck "range over a function: no such loop" (fr.pos p)) w)) := fun l j => by
    refine after_after ?_
    split
    · exact (doReturn_after _ _ _ _ _ _ _).le (run_ok (by assumption))
    · trivial
  cases fr.roundOf with
  | none =>
    repeat' first
      | trivial
      | exact Nat.le_refl _
      | exact apply_after _ _ _ _ _ _ _
      | exact oper_after _ _ _ _ _ _
      | exact run_ok (by assumption)
      | exact run_halt (by assumption)
      | exact (apply_after _ _ _ _ _ _ _).le (run_ok (by assumption))
      | exact (doReturn_after _ _ _ _ _ _ _).le (run_ok (by assumption))
      | refine after_after ?_
      | refine elim_after ?_ fun _ => ?_
      | split
  | some l =>
    repeat' first
      | trivial
      | exact Nat.le_refl _
      | with_reducible exact leave _ _
      | exact apply_after _ _ _ _ _ _ _
      | exact oper_after _ _ _ _ _ _
      | exact run_ok (by assumption)
      | exact run_halt (by assumption)
      | exact (apply_after _ _ _ _ _ _ _).le (run_ok (by assumption))
      | exact (doReturn_after _ _ _ _ _ _ _).le (run_ok (by assumption))
      | refine elim_after ?_ fun _ => ?_
      | refine after_after ?_
      | split
theorem stepG_after (p : Program) (m : Bool) (g : Goroutine) (w : World) (b : Bool) : After w.drawn (stepG p m g w b) := by
  unfold stepG
  simp only []
  split
  · exact die_after _ _ _ _
  · exact exec_after _ _ _ _ _ _ _
  · exact unwind_after _ _ _ _ _ _
theorem look_drawn (p : Program) (gs : Array Goroutine) (rest : Rest) (w : World) (m' : Machine) (h : look p gs rest w = .next m') : w.drawn ≤ m'.world.drawn := by
  unfold look at h
  simp only [] at h
  repeat' first
    | (simp at h; done)
    | (simp only [Stepped.next.injEq] at h; subst h; have k := run_ok ‹Sem.run p _ w = Result.ok _ _›; exact k)
    | split at h
theorem communicate_drawn (p : Program) (rest : Rest) (gs : Array Goroutine) (i : Nat) (g : Goroutine) (cases : Array CommCase) (blocking : Bool)
    (shape : CommShape) (w : World) (m' : Machine) (h : (communicate p rest gs i g cases blocking shape w).1 = .next m') : w.drawn ≤ m'.world.drawn := by
  unfold communicate at h
  simp only [] at h
  have wt : ∀ w', waitingAt rest cases w = some w' → w.drawn ≤ w'.drawn := fun w' hw => by
    unfold waitingAt at hw
    split at hw
    · split at hw
      · simp only [Option.some.injEq] at hw; subst hw; exact Nat.le_refl _
      · cases hw
    · simp only [Option.some.injEq] at hw; subst hw; exact Nat.le_refl _
  repeat' first
    | (simp at h; done)
    | (simp only [Stepped.next.injEq] at h; subst h; exact Nat.le_refl _)
    | (simp only [Stepped.next.injEq] at h; subst h; exact wt _ (by assumption))
    | (simp only [Stepped.next.injEq] at h; subst h; have k := run_ok ‹Sem.run p _ w = Result.ok _ _›; first | exact k | exact Nat.le_trans k (run_halt ‹Sem.run p (runtimePanic _) _ = Result.halt _ _›) | (have k2 := run_ok ‹Sem.run p (choose _) _ = Result.ok _ _›; exact Nat.le_trans k k2))
    | split at h
theorem retime_drawn (m : Machine) (k : Nat) (t : Timer) (a b : Nat) : (retime m k t a b).2.world.drawn = m.world.drawn := by
  unfold retime drain
  simp only []
  repeat' first
    | rfl
    | split
theorem timerOp_drawn (m : Machine) (op : TimerOp) (v : Value) (m' : Machine) (h : timerOp m op = .ok (v, m')) : m.world.drawn ≤ m'.world.drawn := by
  have nm : ∀ (var : Addr) (f : Nat → Timer → Value × Machine), (∀ k t, (f k t).2.world.drawn = m.world.drawn) → timerOp.named m var f = .ok (v, m') → m.world.drawn ≤ m'.world.drawn := by
    intro var f hf hn
    unfold timerOp.named at hn
    split at hn
    · simp only [Except.ok.injEq] at hn
      rw [show m' = (v, m').2 from rfl, ← hn, hf]
      exact Nat.le_refl _
    · cases hn
  unfold timerOp at h
  split at h
  · repeat' first
      | (simp at h; done)
      | (simp only [Except.ok.injEq, Prod.mk.injEq] at h; rw [← h.2]; exact Nat.le_refl _)
      | split at h
  · exact nm _ _ (fun k t => retime_drawn _ _ _ _ _) h
  · split at h
    · rename_i m2 ho
      have e : m2.world.drawn = m.world.drawn := by
        unfold timerOp.opened at ho
        repeat' first
          | (simp at ho; done)
          | (simp only [Option.some.injEq] at ho; rw [← ho]; done)
          | split at ho
      exact nm _ _ (fun k t => by rw [retime_drawn]; first | exact e | rfl) h
    · cases h
  · simp only [Except.ok.injEq, Prod.mk.injEq] at h
    rw [← h.2]
    exact Nat.le_refl _
theorem runT_drawn (p : Program) (m m' : Machine) (i : Nat) (b : Bool) (h : (runT p m i b).1 = .next m') : m.world.drawn ≤ m'.world.drawn := by
  simp only [runT] at h
  have hs : After m.world.drawn (stepG p (i == 0) (m.gs.swapAt! i { (default : Goroutine) with status := .finished }).1 m.world b) := stepG_after _ _ _ _ _
  revert hs h
  generalize m.gs.swapAt! _ _ = gg
  generalize stepG p _ gg.1 m.world b = s
  intro h hs
  cases s <;> simp only [] at h
  all_goals first
    | (simp at h; done)
    | (exact Nat.le_trans hs (communicate_drawn _ _ _ _ _ _ _ _ _ _ h))
    | (exact Nat.le_trans hs (look_drawn _ _ _ _ _ h))
    | (simp only [Stepped.next.injEq] at h; subst h; exact hs)
    | (repeat' first
        | (simp at h; done)
        | (simp only [Stepped.next.injEq] at h; subst h; exact hs)
        | (simp only [Stepped.next.injEq] at h; subst h; exact Nat.le_trans hs (timerOp_drawn _ _ _ _ ‹_›))
        | (rename_i he; unfold endThrow dieOf at he; simp only [GStep.go.injEq] at he; simp only [Stepped.next.injEq] at h; subst h; rw [← he.2.1]; exact hs)
        | split at h)
theorem serve_drawn (p : Program) (m m' : Machine) (k : Nat) (h : serve p m k = .next m') : m.world.drawn ≤ m'.world.drawn := by
  unfold serve at h
  simp only [] at h
  repeat' first
    | (simp at h; done)
    | (simp only [Stepped.next.injEq] at h; subst h; exact Nat.le_refl _)
    | split at h
def MoveOk (d : Nat) : Move → Prop
  | .goroutine m _ => d ≤ m.world.drawn
  | .machine (.next m) _ => d ≤ m.world.drawn
  | .machine (.ended _ _) _ => True
theorem MoveOk.le {d e : Nat} (h : d ≤ e) : ∀ {x : Move}, MoveOk e x → MoveOk d x
  | .goroutine _m _, k => Nat.le_trans h k
  | .machine (.next _m) _, k => Nat.le_trans h k
  | .machine (.ended _ _) _, _ => trivial
theorem pick_ok (p : Program) (m : Machine) (rs : List Nat) : MoveOk m.world.drawn (match (choose (.sched rs.length) : Sem Nat).run p m.world with
      | .halt _ w => .machine (.ended (.stuck "sched" "") w)
      | .ok k world =>
        if rs.length ≤ 1 then .goroutine { m with world } (rs.getD k 0) else
        match (choose (.extern "sched.slice" 65536) : Sem Nat).run p world with
        | .halt _ w => .machine (.ended (.stuck "sched.slice" "") w)
        | .ok n world => .goroutine { m with world, rest := { m.rest with slice := if n = 0 then none else some (rs.getD k 0, n) } } (rs.getD k 0)) := by
  split
  · trivial
  · rename_i h
    split
    · exact run_ok h
    · split
      · trivial
      · rename_i h2
        exact Nat.le_trans (run_ok h) (run_ok h2)
theorem askOn_ok (p : Program) (m : Machine) : MoveOk m.world.drawn (askOn p m) := by
  unfold askOn
  simp only []
  split
  · trivial
  · rename_i k world h
    have h0 := run_ok h
    split
    · cases hv : serve p { m with world } ((due m.rest.timers m.world.os.mono).getD k 0) with
      | next m2 => exact Nat.le_trans h0 (serve_drawn _ _ _ _ hv)
      | ended o w => trivial
    · split
      · split
        · exact h0
        · split
          · exact h0
          · split <;> trivial
      · split
        · exact (pick_ok p { m with world } _).le h0
        · split
          · trivial
          · rename_i h2
            exact (pick_ok p { m with world := _ } _).le (Nat.le_trans h0 (run_ok h2))
          · rename_i h2
            have h3 := Nat.le_trans h0 (run_ok h2)
            exact h3
          · rename_i h2
            exact (pick_ok p (({ m with world := _ } : Machine).advanceTo _) _).le (Nat.le_trans h0 (run_ok h2))
theorem ask_ok (p : Program) (m : Machine) : MoveOk m.world.drawn (ask p m) := by
  unfold ask
  split
  · split
    · trivial
    · rename_i h
      split
      · rename_i hl
        exact (askOn_ok _ _).le (Nat.le_trans (run_ok h) (look_drawn _ _ _ _ _ hl))
      · rename_i e hne
        cases hl : look p m.gs m.rest _ with
        | next m2 => exact absurd hl (hne m2)
        | ended o w => trivial
    · rename_i h
      exact (askOn_ok p { m with world := _ }).le (run_ok h)
  · exact askOn_ok _ _
theorem move_ok (p : Program) (m : Machine) : MoveOk m.world.drawn (move p m) := by
  unfold move
  repeat' first
    | trivial
    | exact Nat.le_refl _
    | exact ask_ok p { m with rest := _ }
    | exact ask_ok _ _
    | split
theorem step_drawn (p : Program) (m m' : Machine) (h : step p m = .next m') : m.world.drawn ≤ m'.world.drawn := by
  unfold step stepT at h
  have hm := move_ok p m
  split at h
  · rename_i m1 i he
    rw [he] at hm
    exact Nat.le_trans hm (runT_drawn _ _ _ _ _ h)
  · rename_i s ops he
    rw [he] at hm
    dsimp only at h
    subst h
    exact hm
theorem steps_drawn {p : Program} {m m' : Machine} (h : Steps p m m') : m.world.drawn ≤ m'.world.drawn := by
  obtain ⟨n, h⟩ := h
  induction n generalizing m with
  | zero => simp only [runN, Stepped.next.injEq] at h; rw [h]; exact Nat.le_refl _
  | succ n ih =>
    simp only [runN] at h
    split at h
    · rename_i m1 hs
      exact Nat.le_trans (step_drawn _ _ _ hs) (ih h)
    · rename_i e hne
      exact absurd h (hne m')
theorem Calls.drawn {P : Program} {f : FuncId} {args : Array Value} {w : World} {R : Ending → World → Prop} (h : Calls P f args w R) : Calls P f args w fun e w' => R e w' ∧ ∀ v, e = .returned v → w.drawn ≤ w'.drawn := by
  intro cs
  obtain ⟨e, w', fr, hr, hc, hf, hl⟩ := h cs
  refine ⟨e, w', fr, ⟨hr, fun v he => ?_⟩, hc, hf, hl⟩
  subst he
  exact steps_drawn hc
end Go.Proofs.YtlmefcepdadfjaaGreat
