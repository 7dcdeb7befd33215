/- The S-layer: a weakest-precondition reading of the code over frames that are functions, sound for the kit's own. No program in sight. -/
import Derived.OrdersHeld
import Derived.Laws.Sem
import Derived.Laws.World
import Derived.Below
set_option linter.unusedVariables false
set_option linter.unusedSimpArgs false
namespace Go.SL
open Go Go.RowKit

/-- A frame as a function from slots to values. -/
abbrev Fr := Nat → Value
def put (f : Fr) (d : Option Tmp) (v : Value) : Fr :=
  match d with
  | some d => fun n => bif Nat.beq n d then v else f n
  | none => f
def ev (f : Fr) : Operand → Value
  | .tmp t => f t
  | .const v => v
  | .global g => .pointer (some ⟨g, 0, none⟩)
  | .func g => .func (.func g) #[] #[]
def nth (s : List Value) (i : Nat) : Value := s.getD i undef
def idx : List Nat → Nat → Nat → Option Nat
  | [], _, _ => none
  | x :: l, t, i => bif Nat.beq x t then some i else idx l t (i + 1)
def mem? : List Nat → Nat → Bool
  | [], _ => false
  | x :: l, t => bif Nat.beq x t then true else mem? l t
/-- Slots of l hold s; other slots of wr hold whatever; all others hold what f holds. -/
def ovl (l wr : List Nat) (s : List Value) (f g : Fr) : Fr := fun t =>
  match idx l t 0 with
  | some i => nth s i
  | none => bif mem? wr t then g t else f t

/-! ### Results of steps -/
def pur (P : Program) (s : Sem Value) (k : Value → Prop) : Prop := ∃ v, (∀ w, s.run P w = .ok v w) ∧ k v
def rd (P : Program) (s : Sem Value) (w : World) (k : Value → Prop) : Prop := ∃ v, s.run P w = .ok v w ∧ k v
def rdF (P : Program) (S : World → Prop) (s : Sem Value) (k : Value → Prop) : Prop := ∃ v, (∀ w, S w → s.run P w = .ok v w) ∧ k v
def eff (P : Program) (s : Sem Value) (w : World) (k : Value → World → Prop) : Prop := ∃ v w', s.run P w = .ok v w' ∧ k v w'
def effU (P : Program) (s : Sem Unit) (w : World) (k : World → Prop) : Prop := ∃ w', s.run P w = .ok () w' ∧ k w'
def retK (k : Value → World → Prop) : Ending → World → Prop
  | .returned v, w => k v w
  | .panicked _, _ => False
  | .outgrown, _ => False
def callS (P : Program) (g : FuncId) (args : Array Value) (w : World) (k : Value → World → Prop) : Prop :=
  (∀ w', (callFunc g args).run P w' = .ok (.enter g args) w') ∧ Calls P g args w (retK k)
def callV (P : Program) (fv : Value) (args : Array Value) (w : World) (k : Value → World → Prop) : Prop :=
  match fv with
  | .func (.func g) first captured => callS P g ((first ++ args) ++ captured) w k
  | _ => False
def ifB (v : Value) (A B : Prop) : Prop :=
  match v with
  | .bool true => A
  | .bool false => B
  | _ => False
def pickS (v a b : Value) (k : Value → Prop) : Prop := ifB v (k a) (k b)
def nilS (v : Value) (k : Value → Prop) : Prop :=
  match v with
  | .pointer (some a) => k (.pointer (some a))
  | _ => False
def binSem (op : BinOp) (t : TypeId) (x y : Operand) (a b : Value) : Sem Value :=
  match op with
  | .eql => do eqGuard .eql t x y a b; binOp .eql t a b
  | .neq => do eqGuard .neq t x y a b; binOp .neq t a b
  | op => binOp op t a b
def bltSem (b : Builtin) (argTypes : Array TypeId) (type : TypeId) (args : Array Value) : Option (Sem Value) :=
  match b with
  | .append => some (Builtin.append_ argTypes type args)
  | .cap => some (Builtin.cap_ argTypes type args)
  | .clear => some (Builtin.clear_ argTypes type args)
  | .copy => some (Builtin.copy_ argTypes type args)
  | .delete => some (Builtin.delete_ argTypes type args)
  | .len => some (Builtin.len_ argTypes type args)
  | .max => some (Builtin.max_ argTypes type args)
  | .min => some (Builtin.min_ argTypes type args)
  | _ => none

inductive Kind where | pure | read | eff
def kindOf (o : Oper) : Kind :=
  match o.op with
  | .move _ | .assign _ | .pick .. | .nilCheck _ | .unOp .. | .fieldAddr .. | .field .. | .indexAddr .. | .index .. | .extract .. | .makeFunc .. | .build .. | .slice .. | .makeInterface .. => .pure
  | .binOp op .. => match op with | .eql | .neq => .read | _ => .pure
  | .load .. | .lookup .. => .read
  | .call { callee := .builtin .len, .. } => .read
  | .call { callee := .builtin .cap, .. } => .pure
  | .call { callee := .builtin .max, .. } => .pure
  | .call { callee := .builtin .min, .. } => .pure
  | _ => .eff

/-- Pure operations: the same value in whatever world. -/
def pureS (P : Program) (o : Oper) (f : Fr) (k : Value → Prop) : Prop :=
  match o.op with
  | .move x | .assign x => k (ev f x)
  | .pick c a b => pickS (ev f c) (ev f a) (ev f b) k
  | .nilCheck x => nilS (ev f x) k
  | .unOp op _ x => pur P (Op.unary op (ev f x)) k
  | .binOp op t x y _ => pur P (binSem op t x y (ev f x) (ev f y)) k
  | .fieldAddr s x i => pur P (Instr.fieldAt s (ev f x) i) k
  | .field t x i => pur P (Instr.field t (ev f x) i) k
  | .indexAddr t x i => pur P (Instr.indexAt t (ev f x) (ev f i)) k
  | .index t x i => pur P (Instr.index t (ev f x) (ev f i)) k
  | .extract x i => pur P (Instr.extract (ev f x) i) k
  | .makeFunc fn first captured => k (.func fn (first.map (ev f)) (captured.map (ev f)))
  | .makeInterface t x => pur P (Instr.makeInterface t (ev f x)) k
  | .build t parts => pur P (Instr.build t (parts.map fun (i, x) => (i, ev f x))) k
  | .slice t x lo hi mx => pur P (Instr.sliceAt t (ev f x) (lo.map (ev f)) (hi.map (ev f)) (mx.map (ev f))) k
  | .call c => match c.callee with
    | .builtin b => match bltSem b c.argTypes o.type (c.args.map (ev f)) with
      | some s => pur P s k
      | none => False
    | _ => False
  | _ => False
/-- Operations that only read: what they run. -/
def readSem (o : Oper) (f : Fr) : Option (Sem Value) :=
  match o.op with
  | .load t a => some (Instr.loadAt t (ev f a))
  | .lookup t x i ok => some (Instr.lookup t (ev f x) (ev f i) ok)
  | .binOp op t x y _ => some (binSem op t x y (ev f x) (ev f y))
  | .call c => match c.callee with
    | .builtin b => bltSem b c.argTypes o.type (c.args.map (ev f))
    | _ => none
  | _ => none
/-- All others. -/
def effS (P : Program) (o : Oper) (f : Fr) (w : World) (k : Value → World → Prop) : Prop :=
  match o.op with
  | .alloc e => eff P (Instr.alloc e true (.tuple #[])) w k
  | .box e x => eff P (Instr.box e (ev f x)) w k
  | .buildSlice t n parts => eff P (Instr.buildSlice t n (parts.map fun (i, x) => (i, ev f x))) w k
  | .store t a x => effU P (Instr.storeAt t (ev f a) (ev f x)) w (k undef)
  | .convert s d x => eff P (convert s d (ev f x)) w k
  | .makeMap t r => eff P (Instr.makeMap t (r.map (ev f))) w k
  | .makeSlice t l c => eff P (Instr.makeSlice t (ev f l) (ev f c)) w k
  | .mapUpdate t m x v | .insert t m x v => effU P (Instr.mapUpdate t (ev f m) (ev f x) (ev f v)) w (k undef)
  | .mapEntry t m x => eff P (Instr.mapEntry t (ev f m) (ev f x)) w k
  | .entryStore t m s x => effU P (Instr.entryStore t (ev f m) (ev f s) (ev f x)) w (k undef)
  | .range t x => eff P (Instr.range t (ev f x)) w k
  | .next it s => eff P (Instr.next (ev f it) s o.type) w k
  | .entry it => eff P (Instr.entry (ev f it)) w k
  | .call c => match c.callee with
    | .builtin b => match bltSem b c.argTypes o.type (c.args.map (ev f)) with
      | some s => eff P s w k
      | none => False
    | .value (.func g) => callS P g (c.args.map (ev f)) w k
    | .value x => callV P (ev f x) (c.args.map (ev f)) w k
    | .invoke .. => False
  | _ => False

theorem retK_mono {k k' : Value → World → Prop} (h : ∀ v w, k v w → k' v w) (e : Ending) (w : World) (he : retK k e w) : retK k' e w := by
  cases e <;> first | exact h _ _ he | exact he
theorem callS_mono {P : Program} {g : FuncId} {args : Array Value} {w : World} {k k' : Value → World → Prop} (h : ∀ v w, k v w → k' v w) (hh : callS P g args w k) : callS P g args w k' :=
  ⟨hh.1, hh.2.mono fun e w' he => retK_mono h e w' he⟩
theorem callV_mono {P : Program} {fv : Value} {args : Array Value} {w : World} {k k' : Value → World → Prop} (h : ∀ v w, k v w → k' v w) (hh : callV P fv args w k) : callV P fv args w k' := by
  unfold callV at *
  split at hh
  · exact callS_mono h hh
  · exact hh.elim

/-! ### What the operations do, in the model -/
def Fits (f : Fr) (a : Act) : Prop := ∀ t, a.tmps.getD t undef = f t
theorem Fits.eval {f : Fr} {a : Act} (h : Fits f a) : a.eval = ev f := by
  funext x; cases x <;> first | rfl | exact h _

theorem binSem_run (P : Program) (op : BinOp) (t : TypeId) (x y : Operand) (a b : Value) (w : World) :
    (do eqGuard op t x y a b; binOp op t a b : Sem Value).run P w = (binSem op t x y a b).run P w := by
  unfold binSem eqGuard
  cases op <;> rfl

/-- What a step leaves. -/
def Step (P : Program) (o : Oper) (f : Fr) (w : World) (k : Value → World → Prop) : Prop :=
  ∃ n w', (execOp (ev f) o).run P w = .ok n w' ∧ match n with
    | .value v => k v w'
    | .skip => k undef w'
    | .enter g args => Calls P g args w' (retK k)
    | _ => False

theorem run_value {P : Program} {s : Sem Value} {w w' : World} {v : Value} (h : s.run P w = .ok v w') : (do pure (.value (← s)) : Sem Next).run P w = .ok (.value v) w' := by
  simp [h]
theorem run_unit {P : Program} {s : Sem Unit} {w w' : World} (h : s.run P w = .ok () w') : (do s; pure .skip : Sem Next).run P w = .ok .skip w' := by
  simp [h]

theorem resolve_builtin (P : Program) (f : Fr) (b : Builtin) (args : Array Operand) (ats : Array TypeId) (ty : TypeId) (s : Sem Value)
    (hs : bltSem b ats ty (args.map (ev f)) = some s) (w : World) :
    (do let d ← resolve (ev f) { callee := .builtin b, args := args, argTypes := ats } ty; invoke d.target d.args : Sem Next).run P w = (do pure (.value (← s)) : Sem Next).run P w := by
  cases b <;> simp only [bltSem] at hs <;> first | (cases hs; rfl) | cases hs

theorem pureS_run {P : Program} {o : Oper} {f : Fr} {k : Value → Prop} (h : pureS P o f k) : ∃ v, (∀ w, (execOp (ev f) o).run P w = .ok (.value v) w) ∧ k v := by
  obtain ⟨dst, op, type, pos, after, guard⟩ := o
  have viaPur : ∀ (s : Sem Value), pur P s k → ∃ v, (∀ w, (do pure (.value (← s)) : Sem Next).run P w = .ok (.value v) w) ∧ k v := fun s ⟨v, hv, hk⟩ => ⟨v, fun w => run_value (hv w), hk⟩
  cases op <;> simp only [pureS] at h <;> try exact h.elim
  case move x => exact ⟨_, fun _ => rfl, h⟩
  case assign x => exact ⟨_, fun _ => rfl, h⟩
  case pick c a b =>
    unfold pickS ifB at h
    split at h
    · rename_i hc; exact ⟨_, fun w => by simp [execOp, hc, asBool], h⟩
    · rename_i hc; exact ⟨_, fun w => by simp [execOp, hc, asBool], h⟩
    · exact h.elim
  case nilCheck x =>
    unfold nilS at h
    split at h
    · rename_i a hx; exact ⟨_, fun w => by simp [execOp, hx], h⟩
    · exact h.elim
  case unOp op t x => exact viaPur _ h
  case binOp op t x y ty =>
    obtain ⟨v, hv, hk⟩ := h
    exact ⟨v, fun w => run_value (s := do eqGuard op t x y (ev f x) (ev f y); binOp op t (ev f x) (ev f y)) (by rw [binSem_run]; exact hv w), hk⟩
  case fieldAddr s x i => exact viaPur _ h
  case field s x i => exact viaPur _ h
  case indexAddr s x i => exact viaPur _ h
  case index s x i => exact viaPur _ h
  case extract x i => exact viaPur _ h
  case makeFunc fn a b => exact ⟨_, fun _ => rfl, h⟩
  case makeInterface t x => exact viaPur _ h
  case build t parts => exact viaPur _ h
  case slice t x lo hi mx => exact viaPur _ h
  case call c =>
    obtain ⟨callee, args, ats⟩ := c
    cases callee with
    | value _ => exact h.elim
    | invoke _ _ => exact h.elim
    | builtin b =>
      simp only at h
      split at h
      · rename_i s hs
        obtain ⟨v, hv, hk⟩ := h
        exact ⟨v, fun w => (resolve_builtin P f b args ats type s hs w).trans (run_value (hv w)), hk⟩
      · exact h.elim

theorem readSem_run {P : Program} {o : Oper} {f : Fr} {s : Sem Value} {v : Value} {w : World} (hs : readSem o f = some s) (h : s.run P w = .ok v w) :
    (execOp (ev f) o).run P w = .ok (.value v) w := by
  obtain ⟨dst, op, type, pos, after, guard⟩ := o
  cases op <;> simp only [readSem] at hs <;> try cases hs
  case load t a => exact run_value h
  case lookup t x i ok => exact run_value h
  case binOp op t x y ty => exact run_value (s := do eqGuard op t x y (ev f x) (ev f y); binOp op t (ev f x) (ev f y)) (by rw [binSem_run]; exact h)
  case call c =>
    obtain ⟨callee, args, ats⟩ := c
    cases callee with
    | value _ => cases hs
    | invoke _ _ => cases hs
    | builtin b => exact (resolve_builtin P f b args ats type s hs w).trans (run_value h)

theorem effS_step {P : Program} {o : Oper} {f : Fr} {w : World} {k : Value → World → Prop} (h : effS P o f w k) : Step P o f w k := by
  obtain ⟨dst, op, type, pos, after, guard⟩ := o
  have viaEff : ∀ (s : Sem Value), eff P s w k → ∃ n w', (do pure (.value (← s)) : Sem Next).run P w = .ok n w' ∧ match n with
      | .value v => k v w'
      | .skip => k undef w'
      | .enter g args => Calls P g args w' (retK k)
      | _ => False := fun s ⟨v, w', hv, hk⟩ => ⟨.value v, w', run_value hv, hk⟩
  have viaU : ∀ (s : Sem Unit), effU P s w (k undef) → ∃ n w', (do s; pure .skip : Sem Next).run P w = .ok n w' ∧ match n with
      | .value v => k v w'
      | .skip => k undef w'
      | .enter g args => Calls P g args w' (retK k)
      | _ => False := fun s ⟨w', hv, hk⟩ => ⟨.skip, w', run_unit hv, hk⟩
  have viaCall : ∀ (g : FuncId) (args : Array Value), callS P g args w k → ∃ n w', (callFunc g args).run P w = .ok n w' ∧ match n with
      | .value v => k v w'
      | .skip => k undef w'
      | .enter g args => Calls P g args w' (retK k)
      | _ => False := fun g args ⟨h1, h2⟩ => ⟨_, w, h1 w, h2⟩
  cases op <;> simp only [effS] at h <;> (try exact h.elim) <;> (try exact viaEff _ h) <;> (try exact viaU _ h)
  case call c =>
    obtain ⟨callee, args, ats⟩ := c
    cases callee with
    | invoke _ _ => exact h.elim
    | builtin b =>
      simp only at h
      split at h
      · rename_i s hs
        obtain ⟨v, w', hv, hk⟩ := h
        exact ⟨.value v, w', (resolve_builtin P f b args ats type s hs w).trans (run_value hv), hk⟩
      · exact h.elim
    | value x =>
      have hV : callV P (ev f x) (args.map (ev f)) w k := by
        cases x <;> simp only at h <;> first | exact h | (simp only [ev, callV, Array.empty_append, Array.append_empty]; exact h)
      unfold callV at hV
      split at hV
      · rename_i g first captured hx
        have := viaCall _ _ hV
        simp only [Step, execOp, resolve, hx, Deferred.ofValue, invoke, pure_bind]
        exact this
      · exact hV.elim

theorem Step.mono {P : Program} {o : Oper} {f : Fr} {w : World} {k k' : Value → World → Prop} (hk : ∀ v w, k v w → k' v w) (h : Step P o f w k) : Step P o f w k' := by
  obtain ⟨n, w', hr, hn⟩ := h
  refine ⟨n, w', hr, ?_⟩
  cases n <;> first | exact hk _ _ hn | exact hn.mono (fun e w hh => retK_mono hk e w hh) | exact hn

/-! ### Regions -/
/-- One stretch of operations under one guard (the guard's slot and the wanted bool), with the slots that live on behind it. -/
structure Seg where
  guard : Option (Nat × Bool)
  live : List Nat
  is : List Nat
def joinS (R : Fr → List Value → World → Prop) (X : (List Value → World → Prop) → Prop) : Prop := X fun s w => ∀ g, R g s w
def dstOf (ops : Array Oper) (i : Nat) : Option Tmp := (ops[i]?).bind (·.dst)
def dstList (ops : Array Oper) : List Nat → List Nat
  | [] => []
  | i :: r => match dstOf ops i with
    | some d => d :: dstList ops r
    | none => dstList ops r
def skips (ops : Array Oper) : List Nat → Fr → Fr
  | [], f => f
  | i :: r, f => skips ops r (put f (dstOf ops i) undef)
/-- A guard: a slot that holds no bool (its own operation was passed over) passes it by. -/
def ifG (v : Value) (want : Bool) (A B : Prop) : Prop :=
  match v with
  | .bool b => (match b, want with | true, true => A | true, false => B | false, true => B | false, false => A)
  | _ => B
def isW (v : Value) (want : Bool) : Bool :=
  match v with
  | .bool b => b == want
  | _ => false

/-- In order, no draw: each operation at the world at hand. -/
def opS (P : Program) (o : Oper) (f : Fr) (w : World) (k : Value → World → Prop) : Prop :=
  match kindOf o with
  | .pure => pureS P o f fun v => k v w
  | .read => match readSem o f with
    | some s => rd P s w fun v => k v w
    | none => False
  | .eff => effS P o f w k
def runIs (P : Program) (ops : Array Oper) : List Nat → Fr → World → (Fr → World → Prop) → Prop
  | [], f, w, K => K f w
  | i :: r, f, w, K => match ops[i]? with
    | some o => opS P o f w fun v w' => runIs P ops r (put f o.dst v) w' K
    | none => False
def runSegs (P : Program) (ops : Array Oper) : List Seg → Fr → World → (Fr → World → Prop) → Prop
  | [], f, w, K => K f w
  | sg :: r, f, w, K => match sg.guard with
    | none => runIs P ops sg.is f w fun f' w' => runSegs P ops r f' w' K
    | some (j, want) => joinS (fun g s w' => runSegs P ops r (ovl sg.live (dstList ops sg.is) s f g) w' K) fun J =>
        ifG (match dstOf ops j with | some d => f d | none => undef) want
          (runIs P ops sg.is f w fun f' w' => J (sg.live.map f') w')
          (J (sg.live.map (skips ops sg.is f)) w)

/-- In an order of ours, the tape having drawn some other: floating reads (flagged in fl) at every world of S; floating effects (flagged) must keep S. -/
def opD (P : Program) (S : World → Prop) (fl : Bool) (o : Oper) (f : Fr) (w : World) (k : Value → World → Prop) : Prop :=
  match kindOf o with
  | .pure => pureS P o f fun v => k v w
  | .read => match readSem o f with
    | some s => match fl with
      | true => rdF P S s fun v => k v w
      | false => rd P s w fun v => k v w
    | none => False
  | .eff => match fl with
    | true => effS P o f w fun v w' => S w' ∧ k v w'
    | false => effS P o f w k
def runIsD (P : Program) (S : World → Prop) (fl : List Nat) (ops : Array Oper) : List Nat → Fr → World → (Fr → World → Prop) → Prop
  | [], f, w, K => K f w
  | i :: r, f, w, K => match ops[i]? with
    | some o => opD P S (mem? fl i) o f w fun v w' => runIsD P S fl ops r (put f o.dst v) w' K
    | none => False
def runSegsD (P : Program) (S : World → Prop) (fl : List Nat) (ops : Array Oper) : List Seg → Fr → World → (Fr → World → Prop) → Prop
  | [], f, w, K => K f w
  | sg :: r, f, w, K => match sg.guard with
    | none => runIsD P S fl ops sg.is f w fun f' w' => runSegsD P S fl ops r f' w' K
    | some (j, want) => joinS (fun g s w' => runSegsD P S fl ops r (ovl sg.live (dstList ops sg.is) s f g) w' K) fun J =>
        ifG (match dstOf ops j with | some d => f d | none => undef) want
          (runIsD P S fl ops sg.is f w fun f' w' => J (sg.live.map f') w')
          (J (sg.live.map (skips ops sg.is f)) w)
def drawS (w : World) (F : World → Prop) : Prop := F w.drew
def drawF (w : World) (F : (World → Prop) → World → Prop) : Prop := ∃ S : World → Prop, S w.drew ∧ F S w.drew

/-! ### The step of an operation in the model -/
theorem opS_step {P : Program} {o : Oper} {f : Fr} {w : World} {k : Value → World → Prop} (h : opS P o f w k) : Step P o f w k := by
  unfold opS at h
  split at h
  · obtain ⟨v, hv, hk⟩ := pureS_run h; exact ⟨_, w, hv w, hk⟩
  · split at h
    · rename_i s hs
      obtain ⟨v, hv, hk⟩ := h
      exact ⟨_, w, readSem_run hs hv, hk⟩
    · exact h.elim
  · exact effS_step h

/-- The frame's fitting, with the frame's size. -/
structure Fit (n : Nat) (f : Fr) (a : Act) : Prop where
  size : a.tmps.size = n
  defers : a.defers = []
  at_ : Fits f a
theorem Fit.put {n : Nat} {f : Fr} {a : Act} (h : Fit n f a) {d : Option Tmp} (hd : ∀ t, d = some t → t < n) (v : Value) : Fit n (put f d v) (a.put d v) := by
  cases d with
  | none => exact h
  | some d =>
    have hd := hd d rfl
    refine ⟨by simp [Act.put, h.size], h.defers, fun t => ?_⟩
    show (a.tmps.setIfInBounds d v).getD t undef = bif Nat.beq t d then v else f t
    by_cases e : t = d
    · subst e
      have : t < a.tmps.size := by rw [h.size]; exact hd
      simp [this]
    · have : Nat.beq t d = false := by cases h : Nat.beq t d with | false => rfl | true => exact absurd (Nat.eq_of_beq_eq_true h) e
      rw [this]
      simp only [cond_false]
      rw [← h.at_ t]
      simp [Array.getD_eq_getD_getElem?, Ne.symm e]
theorem Fit.congr {n : Nat} {f f' : Fr} {a : Act} (h : Fit n f a) (hf : ∀ t, f t = f' t) : Fit n f' a := ⟨h.size, h.defers, fun t => (h.at_ t).trans (hf t)⟩

theorem Step.wp {P : Program} {o : Oper} {f : Fr} {n : Nat} {a : Act} {w : World} {k : Value → World → Prop} {K : Act → World → Prop} {Q : Exit → Act → World → Prop}
    (hf : Fit n f a) (h : Step P o f w k) (hK : ∀ v w', k v w' → K (a.put o.dst v) w') : o.wp P a w K Q := by
  obtain ⟨nx, w', hr, hn⟩ := h
  unfold Oper.wp
  rw [hf.at_.eval, hr]
  cases nx <;> simp only [Oper.upon] <;> first | exact hn.elim | skip
  case value v => exact hK _ _ hn
  case skip => exact hK _ _ hn
  case enter g args =>
    refine hn.mono fun e w'' he => ?_
    cases e with
    | returned v => exact hK _ _ he
    | panicked c => exact he.elim
    | outgrown => exact he.elim

def wantedF (ops : Array Oper) (o : Oper) (f : Fr) : Bool :=
  match o.guard with
  | none => true
  | some (j, want) => match dstOf ops j with
    | some d => isW (f d) want
    | none => false
theorem wantedF_spec {ops : Array Oper} {o : Oper} {n : Nat} {f : Fr} {a : Act} (hf : Fit n f a) {b : Bool} (h : wantedF ops o f = b) : Region.wanted o (yielded ops a.tmps) = b := by
  subst h
  unfold wantedF
  unfold Region.wanted
  cases hg : o.guard with
  | none => rfl
  | some gw =>
    obtain ⟨j, want⟩ := gw
    simp only
    unfold yielded
    cases hd : dstOf ops j with
    | none => rw [show (ops[j]?).bind (·.dst) = none from hd]; simp
    | some d =>
      have hv := hf.at_ d
      rw [show (ops[j]?).bind (·.dst) = some d from hd]
      simp only [Option.bind_some]
      rw [Array.getD_eq_getD_getElem?] at hv
      cases hx : a.tmps[d]? with
      | none =>
        rw [hx] at hv
        simp only [Option.getD_none] at hv
        rw [← hv]; simp [undef, isW]
      | some x =>
        rw [hx] at hv
        simp only [Option.getD_some] at hv
        subst hv
        cases f d <;> simp [isW]

/-! ### Slots -/
theorem beq_false {a b : Nat} (h : a ≠ b) : Nat.beq a b = false := by cases e : Nat.beq a b with | false => rfl | true => exact absurd (Nat.eq_of_beq_eq_true e) h
theorem beq_self (a : Nat) : Nat.beq a a = true := Nat.beq_refl a
theorem idx_spec : ∀ (l : List Nat) (t i j : Nat), idx l t i = some j → i ≤ j ∧ l[j - i]? = some t
  | [], _, _, _, h => by cases h
  | x :: l, t, i, j, h => by
    unfold idx at h
    cases e : Nat.beq x t with
    | true => rw [e] at h; cases h; exact ⟨Nat.le_refl _, by simp [Nat.eq_of_beq_eq_true e]⟩
    | false =>
      rw [e] at h
      obtain ⟨h1, h2⟩ := idx_spec l t (i + 1) j h
      exact ⟨by omega, by rw [show j - i = (j - (i + 1)) + 1 by omega]; simpa using h2⟩
theorem mem?_iff (l : List Nat) (t : Nat) : mem? l t = true ↔ t ∈ l := by
  induction l with
  | nil => simp [mem?]
  | cons x l ih =>
    unfold mem?
    by_cases e : x = t
    · subst e; simp
    · rw [beq_false e]; simp [ih, Ne.symm e]
theorem mem?_false {l : List Nat} {t : Nat} (h : mem? l t = false) : t ∉ l := fun hm => by rw [(mem?_iff l t).2 hm] at h; cases h
theorem nth_map (l : List Nat) (f : Fr) {i t : Nat} (h : l[i]? = some t) : nth (l.map f) i = f t := by simp [nth, h]
/-- A frame that differs from f off wr in nothing is what 'ovl' makes of its own values. -/
theorem ovl_self {l wr : List Nat} {f f' : Fr} (h : ∀ t, mem? wr t = false → f' t = f t) (t : Nat) : ovl l wr (l.map f') f f' t = f' t := by
  unfold ovl
  cases e : idx l t 0 with
  | some i => exact nth_map l f' (by simpa using (idx_spec l t 0 i e).2)
  | none =>
    simp only
    cases e' : mem? wr t with
    | true => rfl
    | false => exact (h t e').symm
theorem put_off {f : Fr} {d : Option Tmp} {v : Value} {t : Nat} (h : d ≠ some t) : put f d v t = f t := by
  cases d with
  | none => rfl
  | some d => show (bif Nat.beq t d then v else f t) = f t; rw [beq_false (fun e => h (by rw [e]))]; rfl
/-- What 'ovl' does not speak of. -/
theorem ovl_off {l wr : List Nat} {s : List Value} {f g : Fr} (hl : l.all (mem? wr) = true) {t : Nat} (h : mem? wr t = false) : ovl l wr s f g t = f t := by
  unfold ovl
  cases e : idx l t 0 with
  | some i =>
    have h2 := (idx_spec l t 0 i e).2
    have := List.all_eq_true.1 hl t (List.mem_of_getElem? (by simpa using h2))
    rw [this] at h; cases h
  | none => simp only [h]; rfl

def segOk (ops : Array Oper) (n : Nat) (sg : Seg) : Bool :=
  sg.is.all (fun i => (ops[i]?).any fun o => o.guard == sg.guard) &&
  (dstList ops sg.is).all (fun d => Nat.blt d n) &&
  sg.live.all (mem? (dstList ops sg.is)) &&
  (match sg.guard with
   | none => true
   | some (j, _) => match dstOf ops j with
     | some d => !mem? (dstList ops sg.is) d
     | none => false)

theorem dstList_cons {ops : Array Oper} {i : Nat} {r : List Nat} {o : Oper} (h : ops[i]? = some o) (t : Nat) (ht : mem? (dstList ops (i :: r)) t = false) : o.dst ≠ some t ∧ mem? (dstList ops r) t = false := by
  have e : dstOf ops i = o.dst := by simp [dstOf, h]
  unfold dstList at ht
  rw [e] at ht
  cases ho : o.dst with
  | none => rw [ho] at ht; exact ⟨by simp, ht⟩
  | some d =>
    rw [ho] at ht
    have := mem?_false ht
    simp only [List.mem_cons, not_or] at this
    exact ⟨fun e => this.1 (Option.some.inj e).symm, by cases hh : mem? (dstList ops r) t with | false => rfl | true => exact absurd ((mem?_iff _ _).1 hh) this.2⟩
theorem dstList_lt {ops : Array Oper} {n i : Nat} {r : List Nat} {o : Oper} (h : ops[i]? = some o) (hb : (dstList ops (i :: r)).all (fun d => Nat.blt d n) = true) :
    (∀ t, o.dst = some t → t < n) ∧ (dstList ops r).all (fun d => Nat.blt d n) = true := by
  have e : dstOf ops i = o.dst := by simp [dstOf, h]
  unfold dstList at hb
  rw [e] at hb
  cases ho : o.dst with
  | none => rw [ho] at hb; exact ⟨by simp, hb⟩
  | some d =>
    rw [ho] at hb
    simp only [List.all_cons, Bool.and_eq_true] at hb
    exact ⟨fun t ht => by cases ht; exact Nat.le_of_ble_eq_true hb.1, hb.2⟩

section
variable {P : Program} {ops : Array Oper} {n : Nat} {Q : Exit → Act → World → Prop}

/-- A stretch of wanted operations. -/
theorem runIs_ops (gd : Option (Nat × Bool)) (hg : ∀ j want, gd = some (j, want) → ∃ d, dstOf ops j = some d) :
    ∀ (is : List Nat) (f : Fr) (a : Act) (w : World) (K : Fr → World → Prop) (post : Act → World → Prop),
    is.all (fun i => (ops[i]?).any fun o => o.guard == gd) = true → (dstList ops is).all (fun d => Nat.blt d n) = true →
    (∀ j want, gd = some (j, want) → ∀ d, dstOf ops j = some d → mem? (dstList ops is) d = false ∧ isW (f d) want = true) →
    Fit n f a → runIs P ops is f w K →
    (∀ f' a' w', Fit n f' a' → (∀ t, mem? (dstList ops is) t = false → f' t = f t) → K f' w' → post a' w') →
    ∀ tail : List Nat, (∀ a w, post a w → wpOps P ops Q tail a w) → wpOps P ops Q (is ++ tail) a w
  | [], f, a, w, K, post, _, _, _, hf, h, hp, tail, ht => ht _ _ (hp f a w hf (fun _ _ => rfl) h)
  | i :: r, f, a, w, K, post, hgs, hds, hgf, hf, h, hp, tail, ht => by
    unfold runIs at h
    cases ho : ops[i]? with
    | none => rw [ho] at h; exact h.elim
    | some o =>
      rw [ho] at h
      simp only [List.all_cons, Bool.and_eq_true, ho, Option.any_some] at hgs
      obtain ⟨hd1, hd2⟩ := dstList_lt ho hds
      have hgd : o.guard = gd := by simpa using hgs.1
      rw [List.cons_append, wpOps_cons]
      unfold wpOp
      rw [ho]
      have hw : wantedF ops o f = true := by
        unfold wantedF
        rw [hgd]
        cases hgq : gd with
        | none => rfl
        | some gw =>
          obtain ⟨j, want⟩ := gw
          obtain ⟨d, hd⟩ := hg j want hgq
          have := (hgf j want hgq d hd).2
          simp [hd, this]
      simp only
      rw [if_pos (wantedF_spec hf hw)]
      refine .inl (Step.wp hf (opS_step h) (fun v w' hk => ?_))
      refine runIs_ops gd hg r (put f o.dst v) _ w' K post hgs.2 hd2 (fun j want e d hd => ?_) (hf.put hd1 v) hk (fun f' a' w'' hf' hoff hK => ?_) tail ht
      · have := hgf j want e d hd
        obtain ⟨h1, h2⟩ := dstList_cons ho d this.1
        exact ⟨h2, by rw [put_off h1]; exact this.2⟩
      · refine hp f' a' w'' hf' (fun t htm => ?_) hK
        obtain ⟨h1, h2⟩ := dstList_cons ho t htm
        rw [hoff t h2, put_off h1]

/-- A stretch that is passed over. -/
theorem skips_ops (j : Nat) (want : Bool) (d : Nat) (hd : dstOf ops j = some d) :
    ∀ (is : List Nat) (f : Fr) (a : Act) (w : World) (post : Act → World → Prop),
    is.all (fun i => (ops[i]?).any fun o => o.guard == some (j, want)) = true → (dstList ops is).all (fun d => Nat.blt d n) = true →
    mem? (dstList ops is) d = false → isW (f d) want = false → Fit n f a →
    (∀ a', Fit n (skips ops is f) a' → post a' w) → ∀ tail : List Nat, (∀ a w, post a w → wpOps P ops Q tail a w) → wpOps P ops Q (is ++ tail) a w
  | [], f, a, w, post, _, _, _, _, hf, hp, tail, ht => ht _ _ (hp a hf)
  | i :: r, f, a, w, post, hgs, hds, hm, hb, hf, hp, tail, ht => by
    simp only [List.all_cons, Bool.and_eq_true] at hgs
    cases ho : ops[i]? with
    | none => rw [ho] at hgs; simp at hgs
    | some o =>
      simp only [ho, Option.any_some] at hgs
      obtain ⟨hd1, hd2⟩ := dstList_lt ho hds
      obtain ⟨h1, h2⟩ := dstList_cons ho d hm
      have hgd : o.guard = some (j, want) := by simpa using hgs.1
      rw [List.cons_append, wpOps_cons]
      unfold wpOp
      rw [ho]
      have hw : wantedF ops o f = false := by unfold wantedF; rw [hgd]; simp only [hd, hb]
      simp only
      rw [if_neg (by rw [wantedF_spec hf hw]; simp)]
      refine skips_ops j want d hd r (put f o.dst undef) _ w post hgs.2 hd2 h2 (by rw [put_off h1]; exact hb) (hf.put hd1 undef) (fun a' hf' => hp a' ?_) tail ht
      have e : dstOf ops i = o.dst := by simp [dstOf, ho]
      unfold skips
      rw [e]
      exact hf'

theorem skips_off : ∀ (is : List Nat) (f : Fr) (t : Nat), mem? (dstList ops is) t = false → skips ops is f t = f t
  | [], _, _, _ => rfl
  | i :: r, f, t, h => by
    unfold skips
    unfold dstList at h
    cases e : dstOf ops i with
    | none => rw [e] at h; exact skips_off r f t h
    | some d =>
      rw [e] at h
      have := mem?_false h
      simp only [List.mem_cons, not_or] at this
      rw [skips_off r _ t (by cases hh : mem? (dstList ops r) t with | false => rfl | true => exact absurd ((mem?_iff _ _).1 hh) this.2), put_off (fun e' => this.1 (Option.some.inj e').symm)]

theorem ifB_spec {v : Value} {A B : Prop} (h : ifB v A B) : (v = .bool true ∧ A) ∨ (v = .bool false ∧ B) := by
  unfold ifB at h
  split at h
  · exact .inl ⟨rfl, h⟩
  · exact .inr ⟨rfl, h⟩
  · exact h.elim
theorem ifG_spec {v : Value} {want : Bool} {A B : Prop} (h : ifG v want A B) : (isW v want = true ∧ A) ∨ (isW v want = false ∧ B) := by
  unfold ifG at h
  unfold isW
  split at h
  · rename_i b
    cases b <;> cases want
    · exact .inl ⟨rfl, h⟩
    · exact .inr ⟨rfl, h⟩
    · exact .inr ⟨rfl, h⟩
    · exact .inl ⟨rfl, h⟩
  · exact .inr ⟨rfl, h⟩

theorem segOk_spec {sg : Seg} (h : segOk ops n sg = true) : sg.is.all (fun i => (ops[i]?).any fun o => o.guard == sg.guard) = true ∧ (dstList ops sg.is).all (fun d => Nat.blt d n) = true ∧
    sg.live.all (mem? (dstList ops sg.is)) = true ∧ ∀ j want, sg.guard = some (j, want) → ∃ d, dstOf ops j = some d ∧ mem? (dstList ops sg.is) d = false := by
  simp only [segOk, Bool.and_eq_true] at h
  refine ⟨h.1.1.1, h.1.1.2, h.1.2, fun j want e => ?_⟩
  have h2 := h.2
  rw [e] at h2
  simp only at h2
  cases hd : dstOf ops j with
  | none => rw [hd] at h2; cases h2
  | some d => rw [hd] at h2; exact ⟨d, rfl, by simpa using h2⟩

def segsIs : List Seg → List Nat
  | [] => []
  | sg :: r => sg.is ++ segsIs r

/-- A region that draws nothing. -/
theorem runSegs_ops : ∀ (segs : List Seg) (f : Fr) (a : Act) (w : World) (K : Fr → World → Prop), segs.all (segOk ops n) = true → Fit n f a → runSegs P ops segs f w K →
    (∀ f' a' w', Fit n f' a' → (∀ t, mem? (dstList ops (segsIs segs)) t = false → f' t = f t) → K f' w' → Q .normal a' w') → wpOps P ops Q (segsIs segs) a w
  | [], f, a, w, K, _, hf, h, hp => hp f a w hf (fun _ _ => rfl) h
  | sg :: r, f, a, w, K, hok, hf, h, hp => by
    simp only [List.all_cons, Bool.and_eq_true] at hok
    obtain ⟨o1, o2, o3, o4⟩ := segOk_spec hok.1
    have hsplit : ∀ t, mem? (dstList ops (segsIs (sg :: r))) t = false → mem? (dstList ops sg.is) t = false ∧ mem? (dstList ops (segsIs r)) t = false := by
      intro t ht
      have : ∀ (x y : List Nat), dstList ops (x ++ y) = dstList ops x ++ dstList ops y := by
        intro x y
        induction x with
        | nil => rfl
        | cons i x ih => simp only [List.cons_append, dstList]; cases dstOf ops i <;> simp [ih]
      have hm := mem?_false ht
      simp only [segsIs, this, List.mem_append, not_or] at hm
      have mk : ∀ l : List Nat, t ∉ l → mem? l t = false := fun l hl => by cases hh : mem? l t with | false => rfl | true => exact absurd ((mem?_iff _ _).1 hh) hl
      exact ⟨mk _ hm.1, mk _ hm.2⟩
    unfold runSegs at h
    cases hg : sg.guard with
    | none =>
      rw [hg] at h
      refine runIs_ops none (fun _ _ e => by cases e) sg.is f a w _ (fun a' w' => wpOps P ops Q (segsIs r) a' w') (hg ▸ o1) o2 (fun _ _ e => by cases e) hf h (fun f' a' w' hf' hoff hk => ?_) _ (fun _ _ h => h)
      refine runSegs_ops r f' a' w' K hok.2 hf' hk (fun f'' a'' w'' hf'' hoff' hk' => hp f'' a'' w'' hf'' (fun t ht => ?_) hk')
      obtain ⟨h1, h2⟩ := hsplit t ht
      rw [hoff' t h2, hoff t h1]
    | some gw =>
      obtain ⟨j, want⟩ := gw
      rw [hg] at h
      obtain ⟨d, hd, hdm⟩ := o4 j want hg
      simp only [joinS, hd] at h
      have go : ∀ f' a' w', Fit n f' a' → (∀ t, mem? (dstList ops sg.is) t = false → f' t = f t) → (∀ g, runSegs P ops r (ovl sg.live (dstList ops sg.is) (sg.live.map f') f g) w' K) → wpOps P ops Q (segsIs r) a' w' := by
        intro f' a' w' hf' hoff hR
        refine runSegs_ops r _ a' w' K hok.2 (hf'.congr fun t => (ovl_self hoff t).symm) (hR f') (fun f'' a'' w'' hf'' hoff' hk' => hp f'' a'' w'' hf'' (fun t ht => ?_) hk')
        obtain ⟨h1, h2⟩ := hsplit t ht
        rw [hoff' t h2, ovl_off o3 h1]
      rcases ifG_spec h with ⟨hv, h⟩ | ⟨hv, h⟩
      · exact runIs_ops (some (j, want)) (fun _ _ e => by cases e; exact ⟨d, hd⟩) sg.is f a w _ (fun a' w' => wpOps P ops Q (segsIs r) a' w') (hg ▸ o1) o2
          (fun _ _ e d' hd' => by cases e; rw [hd] at hd'; cases hd'; exact ⟨hdm, hv⟩) hf h (fun f' a' w' hf' hoff hk => go f' a' w' hf' hoff hk) _ (fun _ _ h => h)
      · exact skips_ops j want d hd sg.is f a w (fun a' w' => wpOps P ops Q (segsIs r) a' w') (hg ▸ o1) o2 hdm hv hf (fun a' hf' => go _ a' w hf' (fun t ht => skips_off sg.is f t ht) h) _ (fun _ _ h => h)

end

/-! ### Regions that draw their order -/
inductive Anc (ops : Array Oper) : Nat → Nat → Prop where
  | edge {j : Nat} {oj : Oper} {e : Edge} (h : ops[j]? = some oj) (he : e ∈ oj.after) (hb : Region.binds .any e = true) : Anc ops j e.on
  | step {j i : Nat} {oj : Oper} {e : Edge} (h : ops[j]? = some oj) (he : e ∈ oj.after) (hb : Region.binds .any e = true) (h2 : Anc ops e.on i) : Anc ops j i

def maskOf (acc : List Nat) : List Edge → Nat → Nat
  | [], s => s
  | e :: r, s => maskOf acc r (bif Region.binds .any e then s ||| (2 ^ e.on ||| acc.getD e.on 0) else s)
def masks : List Oper → List Nat → List Nat
  | [], acc => acc
  | o :: r, acc => masks r (acc ++ [maskOf acc o.after.toList 0])

theorem maskOf_spec {ops : Array Oper} {acc : List Nat} {j : Nat} {oj : Oper} (hj : ops[j]? = some oj) (hacc : ∀ k i, (acc.getD k 0).testBit i = true → Anc ops k i) :
    ∀ (es : List Edge) (s : Nat), (∀ e ∈ es, e ∈ oj.after) → (∀ i, s.testBit i = true → Anc ops j i) → ∀ i, (maskOf acc es s).testBit i = true → Anc ops j i
  | [], _, _, hs => hs
  | e :: r, s, hes, hs => by
    unfold maskOf
    refine maskOf_spec hj hacc r _ (fun e' he' => hes e' (List.mem_cons_of_mem _ he')) (fun i hi => ?_)
    cases hb : Region.binds .any e with
    | false => rw [hb] at hi; exact hs i hi
    | true =>
      rw [hb] at hi
      simp only [cond_true, Nat.testBit_or, Bool.or_eq_true, Nat.testBit_two_pow, decide_eq_true_eq] at hi
      have he := hes e List.mem_cons_self
      rcases hi with hi | hi | hi
      · exact hs i hi
      · subst hi; exact .edge hj he hb
      · exact .step hj he hb (hacc _ _ hi)

theorem masks_spec {ops : Array Oper} : ∀ (l : List Oper) (acc : List Nat), (∀ j, l[j]? = ops[acc.length + j]?) → (∀ k i, (acc.getD k 0).testBit i = true → Anc ops k i) →
    ∀ k i, ((masks l acc).getD k 0).testBit i = true → Anc ops k i
  | [], _, _, h => h
  | o :: l, acc, hl, h => by
    unfold masks
    have h0 : ops[acc.length]? = some o := by simpa using (hl 0).symm
    refine masks_spec l _ (fun j => by have := hl (j + 1); simpa [Nat.add_assoc, Nat.add_comm 1 j] using this) (fun k i hi => ?_)
    rcases Nat.lt_trichotomy k acc.length with hk | hk | hk
    · rw [List.getD_eq_getElem?_getD, List.getElem?_append_left hk, ← List.getD_eq_getElem?_getD] at hi
      exact h k i hi
    · subst hk
      rw [List.getD_eq_getElem?_getD, List.getElem?_append_right (Nat.le_refl _)] at hi
      simp only [Nat.sub_self, List.getElem?_cons_zero, Option.getD_some] at hi
      exact maskOf_spec h0 h o.after.toList 0 (fun e he => by simpa using he) (fun i hi => by simp at hi) i hi
    · rw [List.getD_eq_getElem?_getD, List.getElem?_eq_none (by simp; omega)] at hi
      simp at hi

/-- j waits for i, through others too. -/
def ancB (ms : List Nat) (j i : Nat) : Bool := (ms.getD j 0).testBit i

def Closed (ops : Array Oper) (listed : Array Bool) : Prop :=
  ∀ j oj, ops[j]? = some oj → listed.getD j false = true → ∀ e ∈ oj.after, Region.binds .any e = true → listed.getD e.on false = true

theorem getD_tf {listed : Array Bool} {i : Nat} (h : listed.getD i true = false) : listed.getD i false = false := by
  rcases Nat.lt_or_ge i listed.size with h' | h'
  · simp [h'] at h ⊢; exact h
  · simp [Array.getElem?_eq_none h'] at h

theorem Closed.anc {ops : Array Oper} {listed : Array Bool} (hc : Closed ops listed) {j i : Nat} (h : Anc ops j i) :
    (∀ oj, ops[j]? = some oj → ∀ e ∈ oj.after, Region.binds .any e = true → listed.getD e.on false = true) → listed.getD i false = true := by
  induction h with
  | edge h he hb => exact fun hh => hh _ h _ he hb
  | step h he hb h2 ih => exact fun hh => ih fun ok hk => hc _ ok hk (hh _ h _ he hb)

theorem Closed.set {ops : Array Oper} {listed : Array Bool} (hc : Closed ops listed) {i : Nat} (hi : i ∈ Region.ready .any ops listed) : Closed ops (listed.setIfInBounds i true) := by
  obtain ⟨_, oi, hoi, hall⟩ := mem_ready.1 hi
  intro j oj hj hl e he hb
  by_cases hij : i = j
  · subst hij
    have : oj = oi := Option.some.inj (hj.symm.trans hoi)
    subst this
    exact getD_set_true (hall e he hb)
  · rw [getD_set_ne false hij] at hl
    exact getD_set_true (hc j oj hj hl e he hb)

section
variable {P : Program} {ops : Array Oper} {Q : Exit → Act → World → Prop} {T : Nat → World → World → Prop}

def wpAnyT (P : Program) (ops : Array Oper) (Q : Exit → Act → World → Prop) (T : Nat → World → World → Prop) : Nat → Array Bool → Act → World → Prop
  | 0, listed, a, w => Region.ready .any ops listed = [] ∧ Q .normal a w
  | fuel + 1, listed, a, w =>
    (Region.ready .any ops listed = [] → Q .normal a w) ∧
    ∀ i ∈ Region.ready .any ops listed, wpOp P ops Q i (fun a' w' => T i w w' ∧ wpAnyT P ops Q T fuel (listed.setIfInBounds i true) a' w') a w

theorem wpAny_of_T : ∀ (fuel : Nat) (listed : Array Bool) (a : Act) (w : World), wpAnyT P ops Q T fuel listed a w → wpAny P .any ops Q fuel listed a w
  | 0, _, _, _, h => h
  | fuel + 1, _, _, _, h => ⟨h.1, fun i hi => wpOp_mono (fun a' w' h' => wpAny_of_T fuel _ a' w' h'.2) (h.2 i hi)⟩

theorem wpAnyT_first {i : Nat} {oi : Oper} {v : Value} {S : World → Prop} (hi : ops[i]? = some oi) (hsel : ∀ (j : Nat) (o : Oper) cs b, ops[j]? = some o → o.op ≠ .select cs b)
    (hQ : ∀ c a w, Q (.panic c) (a.put oi.dst v) w → Q (.panic c) a w) (hT : ∀ w, S w → T i w w) :
    ∀ (fuel : Nat) (listed : Array Bool) (a : Act) (w : World), Closed ops listed →
      (∀ j oj, ops[j]? = some oj → j ≠ i → listed.getD j true = false → (∀ e ∈ oj.after, Region.binds .any e = true → e.on ≠ i) → oi.apart ops oj = true) →
      (∀ j oj, ops[j]? = some oj → j ≠ i → listed.getD j true = false → ¬ Anc ops j i → ∀ w1 w2, S w1 → T j w1 w2 → S w2) →
      i ∈ Region.ready .any ops listed → YieldsIf P ops S oi v a → S w →
      wpAnyT P ops Q T fuel (listed.setIfInBounds i true) (a.put oi.dst v) w → wpAnyT P ops Q T (fuel + 1) listed a w := by
  intro fuel
  induction fuel with
  | zero =>
    intro listed a w hcl _ _ hr hy hS H
    refine ⟨fun h => (by rw [h] at hr; cases hr), fun j hj => ?_⟩
    by_cases hji : j = i
    · subst hji; exact hy.wpOp hi hS ⟨hT w hS, H⟩
    · have := ready_mono hj hji
      rw [H.1] at this
      cases this
  | succ fuel ih =>
    intro listed a w hcl hfree hkeep hr hy hS H
    refine ⟨fun h => (by rw [h] at hr; cases hr), fun j hj => ?_⟩
    by_cases hji : j = i
    · subst hji; exact hy.wpOp hi hS ⟨hT w hS, H⟩
    · have h1 := H.2 j (ready_mono hj hji)
      obtain ⟨hjun, oj, hoj, hall⟩ := mem_ready.1 hj
      have hiun := (mem_ready.1 hr).1
      have hnot : ∀ e ∈ oj.after, Region.binds .any e = true → e.on ≠ i := fun e he hb heq => by
        have h1 := hall e he hb
        rw [heq, getD_tf hiun] at h1
        cases h1
      have hnanc : ¬ Anc ops j i := fun ha => by
        have := hcl.anc ha (fun oj' hoj' e he hb => by
          have : oj' = oj := Option.some.inj (hoj'.symm.trans hoj)
          subst this
          exact hall e he hb)
        rw [getD_tf hiun] at this
        cases this
      have h2 := wpOp_putIf hoj (hfree j oj hoj hji hjun hnot) (fun cs b => hsel i oi cs b hi) (fun cs b => hsel j oj cs b hoj) hQ hy h1
      have hun' : ∀ k, (listed.setIfInBounds j true).getD k true = false → listed.getD k true = false := fun k hun => by
        by_cases hjk : j = k
        · subst hjk; exact hjun
        · rw [getD_set_ne true hjk] at hun; exact hun
      refine wpOp_mono (fun a' w' h3 => ⟨h3.2.1, ih (listed.setIfInBounds j true) a' w' (hcl.set hj) (fun k ok hk hki hun hno => hfree k ok hk hki (hun' k hun) hno)
        (fun k ok hk hki hun => hkeep k ok hk hki (hun' k hun)) (ready_mono hr (Ne.symm hji)) h3.1 (hkeep j oj hoj hji hjun hnanc _ _ hS h3.2.1) ?_⟩) h2
      rw [Array.setIfInBounds_comm _ _ hji]
      exact h3.2.2
end

/-- One place of our order is allowed. good: S still holds. -/
def sigStep (ops : Array Oper) (ms : List Nat) (fl : List Nat) (listed : Array Bool) (good : Bool) (i : Nat) : Bool :=
  match ops[i]? with
  | none => false
  | some o =>
    (Region.ready .any ops listed).contains i &&
    match kindOf o with
    | .pure => Region.free .any ops listed i
    | .read => Region.free .any ops listed i && (!mem? fl i || good) &&
      (List.range ops.size).all fun j => Nat.beq j i || listed.getD j true || ancB ms j i ||
        match ops[j]? with
        | some oj => match kindOf oj with
          | .eff => mem? fl i && mem? fl j
          | _ => true
        | none => true
    | .eff => (Region.ready .any ops listed == [i]) && (!mem? fl i || good)
def goodAfter (ops : Array Oper) (fl : List Nat) (good : Bool) (i : Nat) : Bool :=
  match ops[i]? with
  | some o => match kindOf o with
    | .eff => good && mem? fl i
    | _ => good
  | none => good
def sigOk (ops : Array Oper) (ms : List Nat) (fl : List Nat) : List Nat → Array Bool → Bool → Bool
  | [], listed, _ => (Region.ready .any ops listed).isEmpty
  | i :: r, listed, good => sigStep ops ms fl listed good i && sigOk ops ms fl r (listed.setIfInBounds i true) (goodAfter ops fl good i)

def TT (ops : Array Oper) (fl : List Nat) (S : World → Prop) (i : Nat) (w w' : World) : Prop :=
  match ops[i]? with
  | none => True
  | some o => match kindOf o with
    | .eff => mem? fl i = true → S w'
    | _ => w' = w

section
variable {P : Program} {ops : Array Oper} {Q : Exit → Act → World → Prop} {S : World → Prop} {fl : List Nat} {ms : List Nat} {n : Nat}

theorem sigStep_free {listed : Array Bool} {good : Bool} {i : Nat} {o : Oper} (ho : ops[i]? = some o) (hk : kindOf o ≠ .eff) (h : sigStep ops ms fl listed good i = true) :
    i ∈ Region.ready .any ops listed ∧ Region.free .any ops listed i = true := by
  unfold sigStep at h
  rw [ho] at h
  simp only [Bool.and_eq_true] at h
  refine ⟨by simpa using h.1, ?_⟩
  have h2 := h.2
  cases e : kindOf o with
  | pure => rw [e] at h2; exact h2
  | read => rw [e] at h2; simp only [Bool.and_eq_true] at h2; exact h2.1.1
  | eff => exact absurd e hk
theorem sigStep_eff {listed : Array Bool} {good : Bool} {i : Nat} {o : Oper} (ho : ops[i]? = some o) (hk : kindOf o = .eff) (h : sigStep ops ms fl listed good i = true) :
    Region.ready .any ops listed = [i] ∧ (mem? fl i = true → good = true) := by
  unfold sigStep at h
  rw [ho] at h
  simp only [Bool.and_eq_true, hk, beq_iff_eq, Bool.or_eq_true, Bool.not_eq_true'] at h
  exact ⟨h.2.1, fun e => h.2.2.resolve_left (by rw [e]; simp)⟩
theorem sigStep_read {listed : Array Bool} {good : Bool} {i : Nat} {o : Oper} (ho : ops[i]? = some o) (hk : kindOf o = .read) (h : sigStep ops ms fl listed good i = true)
    (hms : ∀ k i, ancB ms k i = true → Anc ops k i) :
    (mem? fl i = true → good = true) ∧ ∀ j oj, ops[j]? = some oj → j ≠ i → listed.getD j true = false → ¬ Anc ops j i → kindOf oj = .eff → mem? fl i = true ∧ mem? fl j = true := by
  unfold sigStep at h
  rw [ho] at h
  simp only [Bool.and_eq_true, hk, Bool.or_eq_true, Bool.not_eq_true', List.all_eq_true, List.mem_range] at h
  refine ⟨fun e => h.2.1.2.resolve_left (by rw [e]; simp), fun j oj hoj hji hun hna hke => ?_⟩
  have := h.2.2 j (Array.getElem?_eq_some_iff.1 hoj).1
  rw [hoj] at this
  simp only [hke, Bool.and_eq_true] at this
  rcases this with ((h1 | h1) | h1) | h1
  · exact absurd (Nat.eq_of_beq_eq_true h1) hji
  · rw [hun] at h1; cases h1
  · exact absurd (hms _ _ h1) hna
  · exact h1

theorem TT_same {i : Nat} {o : Oper} (ho : ops[i]? = some o) (hk : kindOf o ≠ .eff) (w : World) : TT ops fl S i w w := by
  unfold TT
  rw [ho]
  cases e : kindOf o with
  | eff => exact absurd e hk
  | pure => simp only [e]
  | read => simp only [e]

theorem ready_eff {i : Nat} {listed : Array Bool} {fuel : Nat} {a : Act} {w : World} (hr : Region.ready .any ops listed = [i])
    (h : wpOp P ops Q i (fun a' w' => TT ops fl S i w w' ∧ wpAnyT P ops Q (TT ops fl S) fuel (listed.setIfInBounds i true) a' w') a w) : wpAnyT P ops Q (TT ops fl S) (fuel + 1) listed a w := by
  refine ⟨fun h0 => (by rw [hr] at h0; cases h0), fun j hj => ?_⟩
  rw [hr] at hj
  cases List.mem_singleton.1 hj
  exact h

theorem sig_run (hsel : Region.noSelect ops = true) (hQp : ∀ c a w, ¬ Q (.panic c) a w) (hms : ∀ k i, ancB ms k i = true → Anc ops k i)
    {i : Nat} {o : Oper} (ho : ops[i]? = some o) {listed : Array Bool} {good : Bool} (hs : sigStep ops ms fl listed good i = true) (hcl : Closed ops listed) {f : Fr} {a : Act} (hf : Fit n f a)
    (hw : wantedF ops o f = true) {w : World} {k : Value → World → Prop} (h : opD P S (mem? fl i) o f w k) (hg : good = true → S w) {fuel : Nat}
    (hnext : ∀ v w', k v w' → (goodAfter ops fl good i = true → S w') → wpAnyT P ops Q (TT ops fl S) fuel (listed.setIfInBounds i true) (a.put o.dst v) w') :
    wpAnyT P ops Q (TT ops fl S) (fuel + 1) listed a w := by
  have hga : goodAfter ops fl good i = match kindOf o with | .eff => good && mem? fl i | _ => good := by unfold goodAfter; rw [ho]
  unfold opD at h
  cases hk : kindOf o with
  | pure =>
    rw [hk] at h hga
    simp only at hga
    obtain ⟨v, hv, hkv⟩ := pureS_run h
    obtain ⟨hr, hfr⟩ := sigStep_free ho (by rw [hk]; simp) hs
    exact wpAnyT_first (S := fun _ => True) ho (Region.noSelect_spec hsel) (fun c a w hh => (hQp _ _ _ hh).elim) (fun w _ => TT_same ho (by rw [hk]; simp) w) fuel listed a w hcl
      (Region.free_spec ho hfr) (fun _ _ _ _ _ _ _ _ _ _ => trivial) hr (.inl ⟨wantedF_spec hf hw, fun w' _ => by rw [hf.at_.eval]; exact hv w'⟩) trivial (hnext v w hkv (fun e => hg (by rw [hga] at e; exact e)))
  | read =>
    rw [hk] at h hga
    simp only at hga
    obtain ⟨hr, hfr⟩ := sigStep_free ho (by rw [hk]; simp) hs
    obtain ⟨hgood, hothers⟩ := sigStep_read ho hk hs hms
    simp only at h
    cases hsm : readSem o f with
    | none => rw [hsm] at h; exact h.elim
    | some s =>
      rw [hsm] at h
      cases hfl : mem? fl i with
      | true =>
        rw [hfl] at h
        obtain ⟨v, hv, hkv⟩ := h
        refine wpAnyT_first (S := S) ho (Region.noSelect_spec hsel) (fun c a w hh => (hQp _ _ _ hh).elim) (fun w _ => TT_same ho (by rw [hk]; simp) w) fuel listed a w hcl
          (Region.free_spec ho hfr) (fun j oj hoj hji hun hna w1 w2 h1 ht => ?_) hr (.inl ⟨wantedF_spec hf hw, fun w' hw' => by rw [hf.at_.eval]; exact readSem_run hsm (hv w' hw')⟩) (hg (hgood hfl)) (hnext v w hkv (fun e => hg (by rw [hga] at e; exact e)))
        unfold TT at ht
        rw [hoj] at ht
        simp only at ht
        cases hkj : kindOf oj with
        | eff => rw [hkj] at ht; exact ht (hothers j oj hoj hji hun hna hkj).2
        | pure => rw [hkj] at ht; simp only at ht; rw [ht]; exact h1
        | read => rw [hkj] at ht; simp only at ht; rw [ht]; exact h1
      | false =>
        rw [hfl] at h
        obtain ⟨v, hv, hkv⟩ := h
        refine wpAnyT_first (S := fun w' => w' = w) ho (Region.noSelect_spec hsel) (fun c a w hh => (hQp _ _ _ hh).elim) (fun w _ => TT_same ho (by rw [hk]; simp) w) fuel listed a w hcl
          (Region.free_spec ho hfr) (fun j oj hoj hji hun hna w1 w2 h1 ht => ?_) hr (.inl ⟨wantedF_spec hf hw, fun w' hw' => by rw [hf.at_.eval, hw']; exact readSem_run hsm hv⟩) rfl (hnext v w hkv (fun e => hg (by rw [hga] at e; exact e)))
        unfold TT at ht
        rw [hoj] at ht
        simp only at ht
        cases hkj : kindOf oj with
        | eff => have := (hothers j oj hoj hji hun hna hkj).1; rw [hfl] at this; cases this
        | pure => rw [hkj] at ht; simp only at ht; rw [ht]; exact h1
        | read => rw [hkj] at ht; simp only at ht; rw [ht]; exact h1
  | eff =>
    rw [hk] at h hga
    simp only at h hga
    obtain ⟨hr, hgood⟩ := sigStep_eff ho hk hs
    refine ready_eff hr ?_
    unfold wpOp
    rw [ho]
    simp only
    rw [if_pos (wantedF_spec hf hw)]
    have hTT : ∀ w', (mem? fl i = true → S w') → TT ops fl S i w w' := fun w' hh => by unfold TT; rw [ho]; simp only [hk]; exact hh
    cases hfl : mem? fl i with
    | true =>
      rw [hfl] at h
      exact .inl (Step.wp hf (effS_step h) (fun v w' ⟨hS, hkv⟩ => ⟨hTT w' fun _ => hS, hnext v w' hkv fun _ => hS⟩))
    | false =>
      rw [hfl] at h
      exact .inl (Step.wp hf (effS_step h) (fun v w' hkv => ⟨hTT w' (fun e => by rw [hfl] at e; cases e), hnext v w' hkv (fun e => by rw [hga, hfl] at e; simp at e)⟩))

theorem sig_skip (hsel : Region.noSelect ops = true) (hQp : ∀ c a w, ¬ Q (.panic c) a w)
    {i : Nat} {o : Oper} (ho : ops[i]? = some o) {listed : Array Bool} {good : Bool} (hs : sigStep ops ms fl listed good i = true) (hcl : Closed ops listed) {f : Fr} {a : Act} (hf : Fit n f a)
    (hw : wantedF ops o f = false) {w : World} (hg : good = true → S w) {fuel : Nat}
    (hnext : wpAnyT P ops Q (TT ops fl S) fuel (listed.setIfInBounds i true) (a.put o.dst undef) w) :
    wpAnyT P ops Q (TT ops fl S) (fuel + 1) listed a w := by
  by_cases hk : kindOf o = .eff
  · obtain ⟨hr, hgood⟩ := sigStep_eff ho hk hs
    refine ready_eff hr ?_
    unfold wpOp
    rw [ho]
    simp only
    rw [if_neg (by rw [wantedF_spec hf hw]; simp)]
    refine ⟨?_, hnext⟩
    unfold TT; rw [ho]; simp only [hk]; exact fun e => hg (hgood e)
  · obtain ⟨hr, hfr⟩ := sigStep_free ho hk hs
    exact wpAnyT_first (S := fun _ => True) ho (Region.noSelect_spec hsel) (fun c a w hh => (hQp _ _ _ hh).elim) (fun w _ => TT_same ho hk w) fuel listed a w hcl
      (Region.free_spec ho hfr) (fun _ _ _ _ _ _ _ _ _ _ => trivial) hr (.inr ⟨wantedF_spec hf hw, rfl⟩) trivial hnext

theorem goodAfter_mono {good : Bool} {i : Nat} (h : goodAfter ops fl good i = true) : good = true := by
  unfold goodAfter at h
  split at h
  · split at h
    · simp at h; exact h.1
    · exact h
  · exact h

theorem sigStep_ready {listed : Array Bool} {good : Bool} {i : Nat} (h : sigStep ops ms fl listed good i = true) : i ∈ Region.ready .any ops listed := by
  unfold sigStep at h
  split at h
  · cases h
  · simp only [Bool.and_eq_true] at h; simpa using h.1

theorem runIsD_any (hsel : Region.noSelect ops = true) (hQp : ∀ c a w, ¬ Q (.panic c) a w) (hms : ∀ k i, ancB ms k i = true → Anc ops k i)
    (gd : Option (Nat × Bool)) (hgd : ∀ j want, gd = some (j, want) → ∃ d, dstOf ops j = some d) :
    ∀ (is : List Nat) (tail : List Nat) (listed : Array Bool) (good : Bool) (f : Fr) (a : Act) (w : World) (K : Fr → World → Prop),
    sigOk ops ms fl (is ++ tail) listed good = true → Closed ops listed → (good = true → S w) →
    is.all (fun i => (ops[i]?).any fun o => o.guard == gd) = true → (dstList ops is).all (fun d => Nat.blt d n) = true →
    (∀ j want, gd = some (j, want) → ∀ d, dstOf ops j = some d → mem? (dstList ops is) d = false ∧ isW (f d) want = true) →
    Fit n f a → runIsD P S fl ops is f w K →
    (∀ listed' good' f' a' w', sigOk ops ms fl tail listed' good' = true → Closed ops listed' → (good' = true → S w') → Fit n f' a' → (∀ t, mem? (dstList ops is) t = false → f' t = f t) → K f' w' →
      wpAnyT P ops Q (TT ops fl S) tail.length listed' a' w') →
    wpAnyT P ops Q (TT ops fl S) (is ++ tail).length listed a w
  | [], tail, listed, good, f, a, w, K, hs, hcl, hg, _, _, _, hf, h, hp => hp listed good f a w hs hcl hg hf (fun _ _ => rfl) h
  | i :: r, tail, listed, good, f, a, w, K, hs, hcl, hg, hgs, hds, hgf, hf, h, hp => by
    simp only [List.cons_append, sigOk, Bool.and_eq_true] at hs
    unfold runIsD at h
    cases ho : ops[i]? with
    | none => rw [ho] at h; exact h.elim
    | some o =>
      rw [ho] at h
      simp only [List.all_cons, Bool.and_eq_true, ho, Option.any_some] at hgs
      obtain ⟨hd1, hd2⟩ := dstList_lt ho hds
      have hgo : o.guard = gd := by simpa using hgs.1
      have hw : wantedF ops o f = true := by
        unfold wantedF
        rw [hgo]
        cases hgq : gd with
        | none => rfl
        | some gw =>
          obtain ⟨j, want⟩ := gw
          obtain ⟨d, hd⟩ := hgd j want hgq
          have := (hgf j want hgq d hd).2
          simp [hd, this]
      refine sig_run hsel hQp hms ho hs.1 hcl hf hw h hg (fun v w' hk hg' => ?_)
      refine runIsD_any hsel hQp hms gd hgd r tail _ _ (put f o.dst v) _ w' K hs.2 (hcl.set (sigStep_ready hs.1)) hg' hgs.2 hd2 (fun j want e d hd => ?_) (hf.put hd1 v) hk (fun l' g' f' a' w'' hs' hcl' hg'' hf' hoff hK => ?_)
      · have := hgf j want e d hd
        obtain ⟨h1, h2⟩ := dstList_cons ho d this.1
        exact ⟨h2, by rw [put_off h1]; exact this.2⟩
      · refine hp l' g' f' a' w'' hs' hcl' hg'' hf' (fun t htm => ?_) hK
        obtain ⟨h1, h2⟩ := dstList_cons ho t htm
        rw [hoff t h2, put_off h1]

theorem skipsD_any (hsel : Region.noSelect ops = true) (hQp : ∀ c a w, ¬ Q (.panic c) a w) (j : Nat) (want : Bool) (d : Nat) (hd : dstOf ops j = some d) :
    ∀ (is : List Nat) (tail : List Nat) (listed : Array Bool) (good : Bool) (f : Fr) (a : Act) (w : World),
    sigOk ops ms fl (is ++ tail) listed good = true → Closed ops listed → (good = true → S w) →
    is.all (fun i => (ops[i]?).any fun o => o.guard == some (j, want)) = true → (dstList ops is).all (fun d => Nat.blt d n) = true →
    mem? (dstList ops is) d = false → isW (f d) want = false → Fit n f a →
    (∀ listed' good' a', sigOk ops ms fl tail listed' good' = true → Closed ops listed' → (good' = true → S w) → Fit n (skips ops is f) a' → wpAnyT P ops Q (TT ops fl S) tail.length listed' a' w) →
    wpAnyT P ops Q (TT ops fl S) (is ++ tail).length listed a w
  | [], tail, listed, good, f, a, w, hs, hcl, hg, _, _, _, _, hf, hp => hp listed good a hs hcl hg hf
  | i :: r, tail, listed, good, f, a, w, hs, hcl, hg, hgs, hds, hm, hb, hf, hp => by
    simp only [List.cons_append, sigOk, Bool.and_eq_true] at hs
    simp only [List.all_cons, Bool.and_eq_true] at hgs
    cases ho : ops[i]? with
    | none => rw [ho] at hgs; simp at hgs
    | some o =>
      simp only [ho, Option.any_some] at hgs
      obtain ⟨hd1, hd2⟩ := dstList_lt ho hds
      obtain ⟨h1, h2⟩ := dstList_cons ho d hm
      have hgo : o.guard = some (j, want) := by simpa using hgs.1
      have hw : wantedF ops o f = false := by unfold wantedF; rw [hgo]; simp only [hd, hb]
      refine sig_skip hsel hQp ho hs.1 hcl hf hw hg ?_
      refine skipsD_any hsel hQp j want d hd r tail _ _ (put f o.dst undef) _ w hs.2 (hcl.set (sigStep_ready hs.1)) (fun e => hg (goodAfter_mono e)) hgs.2 hd2 h2 (by rw [put_off h1]; exact hb) (hf.put hd1 undef)
        (fun l' g' a' hs' hcl' hg' hf' => hp l' g' a' hs' hcl' hg' ?_)
      have e : dstOf ops i = o.dst := by simp [dstOf, ho]
      unfold skips
      rw [e]
      exact hf'

theorem runSegsD_any (hsel : Region.noSelect ops = true) (hQp : ∀ c a w, ¬ Q (.panic c) a w) (hms : ∀ k i, ancB ms k i = true → Anc ops k i) :
    ∀ (segs : List Seg) (listed : Array Bool) (good : Bool) (f : Fr) (a : Act) (w : World) (K : Fr → World → Prop),
    sigOk ops ms fl (segsIs segs) listed good = true → Closed ops listed → (good = true → S w) → segs.all (segOk ops n) = true → Fit n f a → runSegsD P S fl ops segs f w K →
    (∀ f' a' w', Fit n f' a' → (∀ t, mem? (dstList ops (segsIs segs)) t = false → f' t = f t) → K f' w' → Q .normal a' w') → wpAnyT P ops Q (TT ops fl S) (segsIs segs).length listed a w
  | [], listed, good, f, a, w, K, hs, _, _, _, hf, h, hp => ⟨by simpa [segsIs, sigOk] using hs, hp f a w hf (fun _ _ => rfl) h⟩
  | sg :: r, listed, good, f, a, w, K, hs, hcl, hgood, hok, hf, h, hp => by
    simp only [List.all_cons, Bool.and_eq_true] at hok
    obtain ⟨o1, o2, o3, o4⟩ := segOk_spec hok.1
    have hsplit : ∀ t, mem? (dstList ops (segsIs (sg :: r))) t = false → mem? (dstList ops sg.is) t = false ∧ mem? (dstList ops (segsIs r)) t = false := by
      intro t ht
      have : ∀ (x y : List Nat), dstList ops (x ++ y) = dstList ops x ++ dstList ops y := by
        intro x y
        induction x with
        | nil => rfl
        | cons i x ih => simp only [List.cons_append, dstList]; cases dstOf ops i <;> simp [ih]
      have hm := mem?_false ht
      simp only [segsIs, this, List.mem_append, not_or] at hm
      have mk : ∀ l : List Nat, t ∉ l → mem? l t = false := fun l hl => by cases hh : mem? l t with | false => rfl | true => exact absurd ((mem?_iff _ _).1 hh) hl
      exact ⟨mk _ hm.1, mk _ hm.2⟩
    unfold runSegsD at h
    cases hg : sg.guard with
    | none =>
      rw [hg] at h
      refine runIsD_any hsel hQp hms none (fun _ _ e => by cases e) sg.is (segsIs r) listed good f a w _ hs hcl hgood (hg ▸ o1) o2 (fun _ _ e => by cases e) hf h (fun l' g' f' a' w' hs' hcl' hg' hf' hoff hk => ?_)
      refine runSegsD_any hsel hQp hms r l' g' f' a' w' K hs' hcl' hg' hok.2 hf' hk (fun f'' a'' w'' hf'' hoff' hk' => hp f'' a'' w'' hf'' (fun t ht => ?_) hk')
      obtain ⟨h1, h2⟩ := hsplit t ht
      rw [hoff' t h2, hoff t h1]
    | some gw =>
      obtain ⟨j, want⟩ := gw
      rw [hg] at h
      obtain ⟨d, hd, hdm⟩ := o4 j want hg
      simp only [joinS, hd] at h
      have go : ∀ l' g' f' a' w', sigOk ops ms fl (segsIs r) l' g' = true → Closed ops l' → (g' = true → S w') → Fit n f' a' → (∀ t, mem? (dstList ops sg.is) t = false → f' t = f t) →
          (∀ g, runSegsD P S fl ops r (ovl sg.live (dstList ops sg.is) (sg.live.map f') f g) w' K) → wpAnyT P ops Q (TT ops fl S) (segsIs r).length l' a' w' := by
        intro l' g' f' a' w' hs' hcl' hg' hf' hoff hR
        refine runSegsD_any hsel hQp hms r l' g' _ a' w' K hs' hcl' hg' hok.2 (hf'.congr fun t => (ovl_self hoff t).symm) (hR f') (fun f'' a'' w'' hf'' hoff' hk' => hp f'' a'' w'' hf'' (fun t ht => ?_) hk')
        obtain ⟨h1, h2⟩ := hsplit t ht
        rw [hoff' t h2, ovl_off o3 h1]
      rcases ifG_spec h with ⟨hv, h⟩ | ⟨hv, h⟩
      · exact runIsD_any hsel hQp hms (some (j, want)) (fun _ _ e => by cases e; exact ⟨d, hd⟩) sg.is (segsIs r) listed good f a w _ hs hcl hgood (hg ▸ o1) o2
          (fun _ _ e d' hd' => by cases e; rw [hd] at hd'; cases hd'; exact ⟨hdm, hv⟩) hf h (fun l' g' f' a' w' hs' hcl' hg' hf' hoff hk => go l' g' f' a' w' hs' hcl' hg' hf' hoff hk)
      · exact skipsD_any hsel hQp j want d hd sg.is (segsIs r) listed good f a w hs hcl hgood (hg ▸ o1) o2 hdm hv hf (fun l' g' a' hs' hcl' hg' hf' => go l' g' _ a' w hs' hcl' hg' hf' (fun t ht => skips_off sg.is f t ht) h)
end

/-! ### Code -/
inductive Ann where
  | leaf
  | seq (live : Option (List Nat × List Nat)) (a b : Ann)
  | cond (a b : Ann)
  | sub (a : Ann)
  | loop (live wr : List Nat) (a : Ann)
  | reg (segs : List Seg) (fl : List Nat)

def opDsts : List Oper → List Nat
  | [] => []
  | o :: r => match o.dst with
    | some d => d :: opDsts r
    | none => opDsts r
def dsts : Code → List Nat
  | .region _ ops _ => opDsts ops.toList
  | .seq a b | .cond _ a b => dsts a ++ dsts b
  | .block _ a | .loop a => dsts a
  | _ => []
def subB (a b : List Nat) : Bool := a.all (mem? b)
def thenX (next : Fr → World → Prop) (Q : Exit → Fr → World → Prop) : Exit → Fr → World → Prop
  | .normal, f, w => next f w
  | e, f, w => Q e f w
def blockX (id : Nat) (Q : Exit → Fr → World → Prop) : Exit → Fr → World → Prop
  | .exit id', f, w => bif Nat.beq id' id then Q .normal f w else Q (.exit id') f w
  | e, f, w => Q e f w
def loopS (F : (List Value → World → Prop) → Fr → List Value → World → Prop) (s : List Value) (w : World) : Prop :=
  ∃ (I : List Value → World → Prop) (μ : List Value → World → Nat), I s w ∧ ∀ g s w, I s w → F (fun s' w' => I s' w' ∧ μ s' w' < μ s w) g s w

def codeS (P : Program) : Code → Ann → (Exit → Fr → World → Prop) → Fr → World → Prop
  | .skip, _, Q, f, w => Q .normal f w
  | .label _, _, Q, f, w => Q .normal f w
  | .exit id, _, Q, f, w => Q (.exit id) f w
  | .ret, _, Q, f, w => Q .ret f w
  | .region _ ops draw, ann, Q, f, w => match ann with
    | .reg segs fl => match draw with
      | false => runSegs P ops segs f w (Q .normal)
      | true => match fl with
        | [] => drawS w fun w => runSegsD P (fun _ => True) [] ops segs f w (Q .normal)
        | x :: fl => drawF w fun S w => runSegsD P S (x :: fl) ops segs f w (Q .normal)
    | _ => False
  | .seq x y, ann, Q, f, w => match ann with
    | .seq live ax ay => match live with
      | none => codeS P x ax (thenX (fun f w => codeS P y ay Q f w) Q) f w
      | some (l, wr) => joinS (fun g s w => codeS P y ay Q (ovl l wr s f g) w) fun J => codeS P x ax (thenX (fun f' w' => J (l.map f') w') Q) f w
    | _ => False
  | .cond c x y, ann, Q, f, w => match ann with
    | .cond ax ay => ifB (ev f c) (codeS P x ax Q f w) (codeS P y ay Q f w)
    | _ => False
  | .block id b, ann, Q, f, w => match ann with
    | .sub a => codeS P b a (blockX id Q) f w
    | _ => False
  | .loop b, ann, Q, f, w => match ann with
    | .loop l wr a => loopS (fun N g s w => codeS P b a (thenX (fun f' w' => N (l.map f') w') Q) (ovl l wr s f g) w) (l.map f) w
    | _ => False
  | _, _, _, _, _ => False

/-- All that is to be looked at once. -/
def chk (n : Nat) : Code → Ann → Bool
  | .region _ ops draw, ann => match ann with
    | .reg segs fl =>
      segs.all (segOk ops n) && subB (dstList ops (segsIs segs)) (opDsts ops.toList) &&
      match draw with
      | false => segsIs segs == List.range ops.size
      | true => Region.noSelect ops && sigOk ops (masks ops.toList []) fl (segsIs segs) (Array.replicate ops.size false) true && Nat.beq (segsIs segs).length ops.size
    | _ => false
  | .seq x y, ann => match ann with
    | .seq live ax ay => chk n x ax && chk n y ay && match live with
      | none => true
      | some (l, wr) => subB (dsts x) wr && subB l wr && subB wr (dsts x)
    | _ => false
  | .cond _ x y, ann => match ann with
    | .cond ax ay => chk n x ax && chk n y ay
    | _ => false
  | .block _ b, ann => match ann with
    | .sub a => chk n b a
    | _ => false
  | .loop b, ann => match ann with
    | .loop l wr a => chk n b a && subB (dsts b) wr && subB l wr && subB wr (dsts b)
    | _ => false
  | _, _ => true

theorem subB_spec {a b : List Nat} (h : subB a b = true) {t : Nat} (ht : mem? b t = false) : mem? a t = false := by
  cases e : mem? a t with
  | false => rfl
  | true =>
    have := List.all_eq_true.1 h t ((mem?_iff a t).1 e)
    rw [ht] at this; cases this
theorem mem?_append {a b : List Nat} {t : Nat} (h : mem? (a ++ b) t = false) : mem? a t = false ∧ mem? b t = false := by
  have := mem?_false h
  simp only [List.mem_append, not_or] at this
  have mk : ∀ l : List Nat, t ∉ l → mem? l t = false := fun l hl => by cases hh : mem? l t with | false => rfl | true => exact absurd ((mem?_iff _ _).1 hh) hl
  exact ⟨mk _ this.1, mk _ this.2⟩

def NoPan (Q : Exit → Act → World → Prop) : Exit → Act → World → Prop
  | .panic _, _, _ => False
  | e, a, w => Q e a w
theorem wp_noPan {P : Program} {c : Code} {Q : Exit → Act → World → Prop} {a : Act} {w : World} (h : c.wp P (NoPan Q) a w) : c.wp P Q a w :=
  wp_mono h fun e a w hh => by cases e <;> first | exact hh | exact hh.elim

theorem codeS_sound {P : Program} (hm : P.follows .mixedOrders = true) {n : Nat} : ∀ (c : Code) (ann : Ann) (Q : Exit → Fr → World → Prop) (Q' : Exit → Act → World → Prop) (f : Fr) (a : Act) (w : World),
    chk n c ann = true → Fit n f a → codeS P c ann Q f w →
    (∀ e f' a' w', Fit n f' a' → (∀ t, mem? (dsts c) t = false → f' t = f t) → Q e f' w' → Q' e a' w') → c.wp P Q' a w := by
  intro c
  induction c with
  | skip => intro ann Q Q' f a w _ hf h hp; exact wp_skip (hp _ f a w hf (fun _ _ => rfl) h)
  | label l => intro ann Q Q' f a w _ hf h hp; exact wp_label (hp _ f a w hf (fun _ _ => rfl) h)
  | exit id => intro ann Q Q' f a w _ hf h hp; exact wp_exit (hp _ f a w hf (fun _ _ => rfl) h)
  | ret => intro ann Q Q' f a w _ hf h hp; exact wp_ret (hp _ f a w hf (fun _ _ => rfl) h)
  | goto l => intro ann Q Q' f a w _ hf h hp; exact h.elim
  | scope b _ => intro ann Q Q' f a w _ hf h hp; exact h.elim
  | rangeFunc x ps as b _ _ => intro ann Q Q' f a w _ hf h hp; exact h.elim
  | refuse s => intro ann Q Q' f a w _ hf h hp; exact h.elim
  | region id ops draw =>
    intro ann Q Q' f a w hchk hf h hp
    cases ann with
    | reg segs fl =>
      simp only [chk, Bool.and_eq_true] at hchk
      obtain ⟨⟨h1, h2⟩, h3⟩ := hchk
      have hp' : ∀ f' a' w', Fit n f' a' → (∀ t, mem? (dstList ops (segsIs segs)) t = false → f' t = f t) → Q .normal f' w' → NoPan Q' .normal a' w' :=
        fun f' a' w' hf' hoff hq => hp _ f' a' w' hf' (fun t ht => hoff t (subB_spec h2 ht)) hq
      refine wp_noPan ?_
      cases draw with
      | false =>
        simp only [codeS] at h
        simp only [beq_iff_eq] at h3
        refine wp_region ?_
        rw [← h3]
        exact runSegs_ops (Q := NoPan Q') segs f a w _ h1 hf h hp'
      | true =>
        simp only [Bool.and_eq_true] at h3
        obtain ⟨⟨h3, h4⟩, h5⟩ := h3
        have hms : ∀ k i, ancB (masks ops.toList []) k i = true → Anc ops k i := masks_spec ops.toList [] (by simp) (fun k i hi => by simp at hi)
        have hcl : Closed ops (Array.replicate ops.size false) := fun j oj hj hl => by
          exfalso
          have hlt := (Array.getElem?_eq_some_iff.1 hj).1
          simp [hlt] at hl
        have fin : ∀ S : World → Prop, S w.drew → runSegsD P S fl ops segs f w.drew (Q .normal) → (Code.region id ops true).wp P (NoPan Q') a w := fun S hS hr => by
          refine wp_region_any hm (wpAny_of_T (T := TT ops fl S) _ _ _ _ ?_)
          have := runSegsD_any (Q := NoPan Q') (n := n) h3 (fun _ _ _ hh => hh) hms segs _ true f a w.drew _ h4 hcl (fun _ => hS) h1 hf hr hp'
          rw [Nat.eq_of_beq_eq_true h5] at this
          exact this
        cases fl with
        | nil => exact fin (fun _ => True) trivial h
        | cons x fl => obtain ⟨S, hS, hr⟩ := h; exact fin S hS hr
    | _ => exact h.elim
  | seq x y ihx ihy =>
    intro ann Q Q' f a w hchk hf h hp
    cases ann with
    | seq live ax ay =>
      simp only [chk, Bool.and_eq_true] at hchk
      obtain ⟨⟨h1, h2⟩, h3⟩ := hchk
      refine wp_seq ?_
      cases live with
      | none =>
        refine ihx ax _ _ f a w h1 hf h (fun e f' a' w' hf' hoff hq => ?_)
        have other : e ≠ .normal → thenX (fun f w => codeS P y ay Q f w) Q e f' w' = Q e f' w' := fun hne => by cases e <;> first | rfl | exact absurd rfl hne
        have offx : ∀ t, mem? (dsts x ++ dsts y) t = false → f' t = f t := fun t ht => hoff t (mem?_append ht).1
        cases e with
        | normal => exact ihy ay Q Q' f' a' w' h2 hf' hq (fun e f'' a'' w'' hf'' hoff' hq' => hp e f'' a'' w'' hf'' (fun t ht => by rw [hoff' t (mem?_append ht).2]; exact offx t ht) hq')
        | exit id => exact hp _ f' a' w' hf' offx hq
        | goto l => exact hp _ f' a' w' hf' offx hq
        | ret => exact hp _ f' a' w' hf' offx hq
        | panic c => exact hp _ f' a' w' hf' offx hq
        | outgrown => exact hp _ f' a' w' hf' offx hq
      | some lw =>
        obtain ⟨l, wr⟩ := lw
        simp only [Bool.and_eq_true] at h3
        obtain ⟨⟨h3, h4⟩, h5⟩ := h3
        refine ihx ax _ _ f a w h1 hf h (fun e f' a' w' hf' hoff hq => ?_)
        have offx : ∀ t, mem? (dsts x ++ dsts y) t = false → f' t = f t := fun t ht => hoff t (mem?_append ht).1
        cases e with
        | normal =>
          have hoffw : ∀ t, mem? wr t = false → f' t = f t := fun t ht => hoff t (subB_spec h3 ht)
          refine ihy ay Q Q' _ a' w' h2 (hf'.congr fun t => (ovl_self hoffw t).symm) (hq f') (fun e f'' a'' w'' hf'' hoff' hq' => hp e f'' a'' w'' hf'' (fun t ht => ?_) hq')
          rw [hoff' t (mem?_append ht).2, ovl_self hoffw t]
          exact offx t ht
        | exit id => exact hp _ f' a' w' hf' offx hq
        | goto l => exact hp _ f' a' w' hf' offx hq
        | ret => exact hp _ f' a' w' hf' offx hq
        | panic c => exact hp _ f' a' w' hf' offx hq
        | outgrown => exact hp _ f' a' w' hf' offx hq
    | _ => exact h.elim
  | cond c x y ihx ihy =>
    intro ann Q Q' f a w hchk hf h hp
    cases ann with
    | cond ax ay =>
      simp only [chk, Bool.and_eq_true] at hchk
      have he : a.eval c = ev f c := by rw [hf.at_.eval]
      rcases ifB_spec h with ⟨hv, h⟩ | ⟨hv, h⟩
      · refine wp_cond_true (he.trans hv) (ihx ax Q Q' f a w hchk.1 hf h (fun e f' a' w' hf' hoff hq => hp e f' a' w' hf' (fun t ht => hoff t (mem?_append ht).1) hq))
      · refine wp_cond_false (he.trans hv) (ihy ay Q Q' f a w hchk.2 hf h (fun e f' a' w' hf' hoff hq => hp e f' a' w' hf' (fun t ht => hoff t (mem?_append ht).2) hq))
    | _ => exact h.elim
  | block id b ih =>
    intro ann Q Q' f a w hchk hf h hp
    cases ann with
    | sub ab =>
      refine wp_block (ih ab _ _ f a w hchk hf h (fun e f' a' w' hf' hoff hq => ?_))
      cases e with
      | exit id' =>
        simp only [blockX] at hq
        simp only [Exit.inBlock]
        by_cases e : id' = id
        · rw [if_pos e]; rw [e, beq_self] at hq; exact hp _ f' a' w' hf' hoff hq
        · rw [if_neg e]; rw [beq_false e] at hq; exact hp _ f' a' w' hf' hoff hq
      | normal => exact hp _ f' a' w' hf' hoff hq
      | goto l => exact hp _ f' a' w' hf' hoff hq
      | ret => exact hp _ f' a' w' hf' hoff hq
      | panic c => exact hp _ f' a' w' hf' hoff hq
      | outgrown => exact hp _ f' a' w' hf' hoff hq
    | _ => exact h.elim
  | loop b ih =>
    intro ann Q Q' f a w hchk hf h hp
    cases ann with
    | loop l wr ab =>
      simp only [chk, Bool.and_eq_true] at hchk
      obtain ⟨⟨⟨h1, h2⟩, h3⟩, h4⟩ := hchk
      obtain ⟨I, μ, hI, hround⟩ := h
      refine wp_loop (fun a w => ∃ f'', Fit n f'' a ∧ (∀ t, mem? wr t = false → f'' t = f t) ∧ I (l.map f'') w) (fun a w => μ (l.map fun t => a.tmps.getD t undef) w) ⟨f, hf, fun _ _ => rfl, hI⟩ ?_
      rintro a₁ w₁ ⟨f₁, hf₁, hoff₁, hI₁⟩
      refine ih ab _ _ _ a₁ w₁ h1 (hf₁.congr fun t => (ovl_self (l := l) hoff₁ t).symm) (hround f₁ _ w₁ hI₁) (fun e f' a' w' hf' hoff hq => ?_)
      have hoff' : ∀ t, mem? wr t = false → f' t = f t := fun t ht => by
        rw [hoff t (subB_spec h2 ht), ovl_self hoff₁ t]; exact hoff₁ t ht
      have hoffd : ∀ t, mem? (dsts b) t = false → f' t = f t := fun t ht => hoff' t (subB_spec h4 ht)
      cases e with
      | normal =>
        have e1 : (l.map fun t => a₁.tmps.getD t undef) = l.map f₁ := List.map_congr_left fun t _ => hf₁.at_ t
        have e2 : (l.map fun t => a'.tmps.getD t undef) = l.map f' := List.map_congr_left fun t _ => hf'.at_ t
        exact ⟨⟨f', hf', hoff', hq.1⟩, by rw [e1, e2]; exact hq.2⟩
      | exit id => exact hp _ f' a' w' hf' hoffd hq
      | goto l => exact hp _ f' a' w' hf' hoffd hq
      | ret => exact hp _ f' a' w' hf' hoffd hq
      | panic c => exact hp _ f' a' w' hf' hoffd hq
      | outgrown => exact hp _ f' a' w' hf' hoffd hq
    | _ => exact h.elim

/-! ### Functions -/
def resCell (t : TypeId) (x : Value) : Sem Value := do loadVar t (← asAddr x)
def resL (P : Program) : List ResultVar → Fr → World → (List Value → Prop) → Prop
  | [], _, _, k => k []
  | .tmp t :: r, f, w, k => resL P r f w fun vs => k (f t :: vs)
  | .cell a t :: r, f, w, k => rd P (resCell t (f a)) w fun v => resL P r f w fun vs => k (v :: vs)
def retV : List Value → Value
  | [v] => v
  | vs => .tuple vs.toArray
def topX (P : Program) (rs : Array ResultVar) (K : Value → World → Prop) : Exit → Fr → World → Prop
  | .normal, f, w => resL P rs.toList f w fun vs => K (retV vs) w
  | .ret, f, w => resL P rs.toList f w fun vs => K (retV vs) w
  | _, _, _ => False

def resSem (a : Act) : ResultVar → Sem Value
  | .tmp t => pure (a.tmps.getD t undef)
  | .cell x t => do loadVar t (← asAddr (a.tmps.getD x undef))
theorem resL_run {P : Program} {w : World} : ∀ (rs : List ResultVar) (f : Fr) (a : Act) (k : List Value → Prop), Fits f a → resL P rs f w k →
    ∃ vs, (rs.mapM (resSem a)).run P w = Result.ok vs w ∧ k vs
  | [], f, a, k, _, h => ⟨[], rfl, h⟩
  | .tmp t :: r, f, a, k, hf, h => by
    obtain ⟨vs, hv, hk⟩ := resL_run r f a _ hf h
    refine ⟨f t :: vs, ?_, hk⟩
    rw [List.mapM_cons]
    simp [resSem, hv, hf t]
  | .cell x t :: r, f, a, k, hf, h => by
    obtain ⟨v, hv, h⟩ := h
    obtain ⟨vs, hvs, hk⟩ := resL_run r f a _ hf h
    refine ⟨v :: vs, ?_, hk⟩
    have hv' : (resSem a (.cell x t)).run P w = Result.ok v w := by
      show (resCell t (a.tmps.getD x undef)).run P w = _
      rw [hf x]; exact hv
    rw [List.mapM_cons]
    simp [hv', hvs]

theorem results_run {P : Program} {fn : Func} {f : Fr} {a : Act} {w : World} {K : Value → World → Prop} (hf : Fits f a) (h : resL P fn.results.toList f w fun vs => K (retV vs) w) :
    ∃ v, (results fn a.tmps).run P w = .ok v w ∧ K v w := by
  obtain ⟨vs, hv, hk⟩ := resL_run fn.results.toList f a _ hf h
  refine ⟨retV vs, ?_, hk⟩
  have e : results fn a.tmps = (fn.results.mapM (resSem a)) >>= fun vs => pure (if h : vs.size = 1 then vs[0] else .tuple vs) := by
    unfold results
    congr 1
  rw [e, Array.mapM_eq_mapM_toList]
  simp only [Sem.run_bind, Sem.run_map, hv, Result.andThen_ok, Sem.run_pure]
  match vs with
  | [] => rfl
  | [v] => rfl
  | v :: u :: r => simp [retV]

theorem callS_of {P : Program} {g : FuncId} {fn : Func} {c : Code} {ann : Ann} {args : Array Value} {w : World} {K : Value → World → Prop} (hm : P.follows .mixedOrders = true)
    (hf : P.funcs[g]? = some fn) (hb : fn.body = some c) (hn : (fn.name == "runtime.NumGoroutine") = false) (hchk : chk fn.ntmps c ann = true) (hargs : args.size ≤ fn.ntmps)
    (h : codeS P c ann (topX P fn.results K) (fun t => args.getD t undef) w) : callS P g args w K := by
  refine ⟨fun w' => ?_, calls_of_wp hf hb (codeS_sound hm c ann _ _ _ _ w hchk ⟨by simp; omega, rfl, fun t => ?_⟩ h (fun e f' a' w' hf' _ hq => ?_))⟩
  · have hn' : ¬ fn.name = "runtime.NumGoroutine" := by simpa using hn
    simp [callFunc, hf, hb, hn']
  · simp only [Array.getD_eq_getD_getElem?]
    rcases Nat.lt_or_ge t args.size with h | h
    · simp [Array.getElem?_append_left h]
    · rw [Array.getElem?_append_right h, Array.getElem?_eq_none h]
      rcases Nat.lt_or_ge (t - args.size) (fn.ntmps - args.size) with h' | h'
      · simp [h']
      · rw [Array.getElem?_eq_none (by simpa using h')]
  · cases e with
    | normal => exact ⟨hf'.defers, results_run hf'.at_ hq⟩
    | ret => exact ⟨hf'.defers, results_run hf'.at_ hq⟩
    | _ => exact hq.elim

end Go.SL
