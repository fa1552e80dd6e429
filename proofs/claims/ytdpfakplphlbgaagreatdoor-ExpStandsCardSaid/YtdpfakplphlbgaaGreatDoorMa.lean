import Derived.Below
import Derived.Orders
import Derived.Deep.LoopGhost
import Derived.OrdersHeld
import Derived.KernelRfl
/- A light walking kit, program-independent: partial heaps, contracts with the frame rule in them, frames as lists, and a computed executor for pure operations. -/
namespace Go.Fw
open Go.RowKit

/-! ## partial heaps -/
abbrev Hp := Nat → Option Obj
def Hp.upd (X : Hp) (b : Nat) (o : Obj) : Hp := fun i => if i = b then some o else X i
theorem Hp.upd_same (X : Hp) (b : Nat) (o : Obj) : X.upd b o b = some o := by simp [Hp.upd]
theorem Hp.upd_ne (X : Hp) {b i : Nat} (o : Obj) (h : i ≠ b) : X.upd b o i = X i := by simp [Hp.upd, h]
def Sub (X : Hp) (w : World) : Prop := ∀ b o, X b = some o → w.heap[b]? = some o
structure Ev (X : Hp) (w w' : World) : Prop where
  os : w'.os = w.os
  tape : w'.tape = w.tape
  output : w'.output = w.output
  drawn : w.drawn ≤ w'.drawn
  size : w.heap.size ≤ w'.heap.size
  keep : ∀ b o, w.heap[b]? = some o → X b = none → w'.heap[b]? = some o
def Dom (X X' : Hp) (w : World) : Prop := ∀ b, X' b ≠ none → X b ≠ none ∨ w.heap.size ≤ b
theorem Ev.refl (X : Hp) (w : World) : Ev X w w := ⟨rfl, rfl, rfl, Nat.le_refl _, Nat.le_refl _, fun _ _ h _ => h⟩
theorem Dom.refl (X : Hp) (w : World) : Dom X X w := fun _ h => .inl h
theorem lt_of_heap {w : World} {b : Nat} {o : Obj} (h : w.heap[b]? = some o) : b < w.heap.size := by
  rcases Nat.lt_or_ge b w.heap.size with h' | h'
  · exact h'
  · simp [Array.getElem?_eq_none h'] at h
theorem Ev.trans {X X1 : Hp} {w w1 w2 : World} (h1 : Ev X w w1) (d : Dom X X1 w) (h2 : Ev X1 w1 w2) : Ev X w w2 :=
  ⟨h2.os.trans h1.os, h2.tape.trans h1.tape, h2.output.trans h1.output, Nat.le_trans h1.drawn h2.drawn, Nat.le_trans h1.size h2.size, fun b o hb hx =>
    h2.keep b o (h1.keep b o hb hx) (by
      cases hx1 : X1 b with
      | none => rfl
      | some o' =>
        rcases d b (by simp [hx1]) with h | h
        · exact absurd hx h
        · have := lt_of_heap hb; omega)⟩
theorem Dom.trans {X X1 X2 : Hp} {w w1 : World} (d : Dom X X1 w) (d1 : Dom X1 X2 w1) (h : w.heap.size ≤ w1.heap.size) : Dom X X2 w := fun b hb => by
  rcases d1 b hb with h' | h'
  · exact d b h'
  · exact .inr (by omega)

/-! ## contracts -/
def Enters (P : Program) (f : FuncId) : Prop := ∀ args (w : World), (callFunc f args).run P w = .ok (.enter f args) w
theorem enters_of {P : Program} {f : FuncId} {fn : Func} {c : Code} (hf : P.funcs[f]? = some fn) (hname : (fn.name == "runtime.NumGoroutine") = false) (hb : fn.body = some c) : Enters P f := by
  intro args w
  have h1 : fn.name ≠ "runtime.NumGoroutine" := by simpa using hname
  simp [callFunc, hf, h1, hb]
/-- The contract of a function: from any world that holds X, it comes to an ending and a partial heap of which Q tells; what is not of X stays. -/
def Trip (P : Program) (f : FuncId) (args : Array Value) (X : Hp) (Q : Ending → Hp → Prop) : Prop :=
  Enters P f ∧ ∀ w, Sub X w → Calls P f args w (fun e w' => ∃ X', Sub X' w' ∧ Ev X w w' ∧ Dom X X' w ∧ Q e X')
theorem Trip.mono {P : Program} {f : FuncId} {args : Array Value} {X : Hp} {Q Q' : Ending → Hp → Prop} (h : Trip P f args X Q) (hq : ∀ e X', Q e X' → Q' e X') : Trip P f args X Q' :=
  ⟨h.1, fun w hw => (h.2 w hw).mono fun _ _ ⟨X', a, b, c, q⟩ => ⟨X', a, b, c, hq _ _ q⟩⟩
def Rt (Φ : Value → Hp → Prop) : Ending → Hp → Prop
  | .returned v, X => Φ v X
  | _, _ => False
theorem Trip.rt {P : Program} {f : FuncId} {args : Array Value} {X : Hp} {Φ Ψ : Value → Hp → Prop} (h : Trip P f args X (Rt Φ)) (hq : ∀ r X', Φ r X' → Ψ r X') : Trip P f args X (Rt Ψ) :=
  h.mono fun e X' q => by cases e <;> first | exact hq _ _ q | exact q

/-! ## what is left to do -/
inductive It where
  | code (c : Code)
  | rg (ops : Array Oper) (rest : List Oper)
  | blk (id : Nat)
  | fin (J : Act → World → Prop)
def post (B : Exit → Act → World → Prop) (p : (Act → World → Prop) × (Nat → Act → World → Prop)) : Exit → Act → World → Prop
  | .normal => p.1
  | .exit id => p.2 id
  | e => B e
def kont (P : Program) (B : Exit → Act → World → Prop) : List It → (Act → World → Prop) × (Nat → Act → World → Prop)
  | [] => (B .normal, fun id => B (.exit id))
  | .code c :: k => (c.wp P (post B (kont P B k)), (kont P B k).2)
  | .rg ops rest :: k => (wpList P ops (post B (kont P B k)) rest, (kont P B k).2)
  | .blk id :: k => ((kont P B k).1, fun id' => if id' = id then (kont P B k).1 else (kont P B k).2 id')
  | .fin J :: k => (J, (kont P B k).2)
def run (P : Program) (B : Exit → Act → World → Prop) (k : List It) : Act → World → Prop := (kont P B k).1
section
variable {P : Program} {B : Exit → Act → World → Prop} {k : List It} {a : Act} {w : World}
theorem run_seq {x y : Code} (h : run P B (.code x :: .code y :: k) a w) : run P B (.code (.seq x y) :: k) a w := by
  refine wp_seq ?_
  have e : Exit.then (y.wp P (post B (kont P B k))) (post B (kont P B k)) = post B (kont P B (.code y :: k)) := by
    funext e; cases e <;> rfl
  rw [e]; exact h
theorem run_block {id : Nat} {c : Code} (h : run P B (.code c :: .blk id :: k) a w) : run P B (.code (.block id c) :: k) a w := by
  refine wp_block ?_
  have e : Exit.inBlock id (post B (kont P B k)) = post B (kont P B (.blk id :: k)) := by
    funext e; cases e <;> try rfl
    funext a w; simp only [Exit.inBlock, post, kont]; split <;> rfl
  rw [e]; exact h
theorem run_skip (h : run P B k a w) : run P B (.code .skip :: k) a w := wp_skip h
theorem run_label {l : Nat} (h : run P B k a w) : run P B (.code (.label l) :: k) a w := wp_label h
theorem run_region {id : Nat} {ops : Array Oper} (h : run P B (.rg ops ops.toList :: k) a w) : run P B (.code (.region id ops false) :: k) a w := wp_region_list h
theorem run_rg_nil {ops : Array Oper} (h : run P B k a w) : run P B (.rg ops [] :: k) a w := h
theorem run_blk {id : Nat} (h : run P B k a w) : run P B (.blk id :: k) a w := h
def exitIn (id : Nat) : List It → Option (List It)
  | [] => none
  | .blk i :: k => match Nat.beq id i with
    | true => some k
    | false => exitIn id k
  | _ :: k => exitIn id k
theorem exitIn_sound {id : Nat} : ∀ {k k' : List It}, exitIn id k = some k' → run P B k' a w → (kont P B k).2 id a w := by
  intro k
  induction k with
  | nil => intro k' h; simp [exitIn] at h
  | cons x k ih =>
    intro k' h hr
    cases x with
    | code c => exact ih h hr
    | rg ops rest => exact ih h hr
    | fin J => exact ih h hr
    | blk i =>
      simp only [exitIn] at h
      simp only [kont]
      cases hb : Nat.beq id i with
      | true =>
        rw [hb] at h
        obtain rfl : k = k' := by simpa using h
        rw [if_pos (Nat.eq_of_beq_eq_true hb)]; exact hr
      | false =>
        rw [hb] at h
        rw [if_neg (fun e => by subst e; simp at hb)]
        exact ih h hr
theorem run_exit {id : Nat} {k' : List It} (h : exitIn id k = some k') (hr : run P B k' a w) : run P B (.code (.exit id) :: k) a w :=
  wp_exit (exitIn_sound h hr)
end

/-! ## symbolic frames and own blocks -/
/-- A value as the walk knows it: a value, or an address (a slice of literal bounds; a slice of any bounds) of a block that has a label. -/
inductive SV where
  | v (x : Value)
  | p (l off : Nat)
  | sl (l off len cap : Nat)
  | sy (l off len cap : Nat)
  | g (c want : Bool) (x : Value)
  | gp (c want : Bool) (l off : Nat)
def SV.den (ρ : Nat → Nat × Nat) : SV → Value
  | .v x => x
  | .p l off => .pointer (some ⟨(ρ l).1, (ρ l).2 + off, none⟩)
  | .sl l off len cap => .slice (some ⟨(ρ l).1, (ρ l).2 + off, none⟩) len cap
  | .sy l off len cap => .slice (some ⟨(ρ l).1, (ρ l).2 + off, none⟩) len cap
  | .g _ _ x => x
  | .gp _ _ l off => .pointer (some ⟨(ρ l).1, (ρ l).2 + off, none⟩)
/-- Under which condition a slot holds the value: always, but behind a guard. -/
def SV.cond : SV → Prop
  | .g c want _ => c = want
  | .gp c want _ _ => c = want
  | _ => True
def SV.below (n : Nat) : SV → Prop
  | .v _ => True
  | .p l _ => l < n
  | .sl l _ _ _ => l < n
  | .sy l _ _ _ => l < n
  | .g _ _ _ => True
  | .gp _ _ l _ => l < n
/-- A block with a label: the call's own; one that is borrowed from the partial heap; some cells of the partial heap that are only read (from an offset on). -/
inductive Blk where
  | own (T : TypeId) (cs : List Value)
  | bor (b : Nat) (T : TypeId) (cs : List Value)
  | ext (b o : Nat) (T : TypeId) (cs : List Value)
abbrev Fm := List (Nat × SV)
abbrev Own := List (Nat × Blk)
def look {α : Type} : List (Nat × α) → Nat → Option α
  | [], _ => none
  | (i, v) :: r, t => match Nat.beq i t with
    | true => some v
    | false => look r t
theorem look_cons_self {α : Type} (i : Nat) (v : α) (r : List (Nat × α)) : look ((i, v) :: r) i = some v := by simp [look]
theorem look_cons_ne {α : Type} {i t : Nat} (v : α) (r : List (Nat × α)) (h : i ≠ t) : look ((i, v) :: r) t = look r t := by
  have : Nat.beq i t = false := by
    cases e : Nat.beq i t with
    | true => exact absurd (Nat.eq_of_beq_eq_true e) h
    | false => rfl
  simp [look, this]
def ev (σ : Fm) : Operand → Option SV
  | .tmp t => look σ t
  | .const v => some (.v v)
  | .global g => some (.v (.pointer (some ⟨g, 0, none⟩)))
  | .func f => some (.v (.func (.func f) #[] #[]))
/-- The number of a block with a label, where it is known. -/
def num (H : Own) (l : Nat) : Option Nat :=
  match look H l with
  | some (.bor b _ _) => some b
  | some (.ext b _ _ _) => some b
  | _ => none
def real (H : Own) : SV → Option Value
  | .v x => some x
  | .p l off => match look H l with
    | some (.ext b o _ _) => some (.pointer (some ⟨b, o + off, none⟩))
    | _ => none
  | .sl l off len cap => match look H l with
    | some (.ext b o _ _) => some (.slice (some ⟨b, o + off, none⟩) len cap)
    | _ => none
  | .sy l off len cap => match look H l with
    | some (.ext b o _ _) => some (.slice (some ⟨b, o + off, none⟩) len cap)
    | _ => none
  | .g _ _ _ => none
  | .gp _ _ _ _ => none
def evs (σ : Fm) (H : Own) : List Operand → Option (List Value)
  | [] => some []
  | x :: r => match ev σ x with
    | some s => match real H s with
      | some v => match evs σ H r with
        | some vs => some (v :: vs)
        | none => none
      | none => none
    | none => none

structure Cx where
  P : Program
  fn : Func
  n : Nat
  w0 : World
  X0 : Hp
  Q : Ending → Hp → Prop
def Cx.B (cx : Cx) : Exit → Act → World → Prop :=
  bodyPost cx.P cx.fn (fun e w' => ∃ X', Sub X' w' ∧ Ev cx.X0 cx.w0 w' ∧ Dom cx.X0 X' cx.w0 ∧ cx.Q e X')
def Cx.Free (cx : Cx) (b : Nat) : Prop := cx.X0 b ≠ none ∨ cx.w0.heap.size ≤ b
def Blk.ok (cx : Cx) (X : Hp) (w : World) (b : Nat × Nat) : Blk → Prop
  | .own T cs => b.2 = 0 ∧ w.heap[b.1]? = some (.cells cs.toArray T (0, 0)) ∧ X b.1 = none ∧ cx.Free b.1
  | .bor c T cs => b = (c, 0) ∧ w.heap[b.1]? = some (.cells cs.toArray T (0, 0)) ∧ X b.1 = none ∧ cx.Free b.1
  | .ext c o T cs => b = (c, o) ∧ ∃ full fz, X c = some (.cells full T fz) ∧ ∀ j, j < cs.length → full[o + j]? = cs[j]?
def Blk.mine : Blk → Bool
  | .ext .. => false
  | _ => true
structure Ok (cx : Cx) (σ : Fm) (H : Own) (nl : Nat) (X : Hp) (a : Act) (w : World) (ρ : Nat → Nat × Nat) : Prop where
  size : a.tmps.size = cx.n
  defers : a.defers = []
  val : ∀ t v, look σ t = some v → v.cond → a.tmps[t]? = some (v.den ρ)
  lab : ∀ t v, look σ t = some v → v.below nl
  blk : ∀ l B, look H l = some B → l < nl ∧ B.ok cx X w (ρ l)
  inj : ∀ l l' B B', look H l = some B → look H l' = some B' → B.mine = true → B'.mine = true → (ρ l).1 = (ρ l').1 → l = l'
  sub : Sub X w
  ev : Ev cx.X0 cx.w0 w
  dom : Dom cx.X0 X cx.w0
def W (cx : Cx) (k : List It) (σ : Fm) (H : Own) (nl : Nat) (X : Hp) : Prop :=
  ∀ a w ρ, Ok cx σ H nl X a w ρ → run cx.P cx.B k a w
/-- What a value operation leans on: the frame, and what the labelled blocks hold. -/
def Blk.cells : Blk → List Value
  | .own _ cs => cs
  | .bor _ _ cs => cs
  | .ext _ _ _ cs => cs
/-- From b's offset on the world holds cs. -/
def Win (w : World) (b : Nat × Nat) (cs : List Value) : Prop := ∃ full T fz, w.heap[b.1]? = some (.cells full T fz) ∧ ∀ j, j < cs.length → full[b.2 + j]? = cs[j]?
theorem Win.of_blk {w : World} {b : Nat × Nat} {cs : List Value} {T : TypeId} {fz : Nat × Nat} (h0 : b.2 = 0) (h : w.heap[b.1]? = some (.cells cs.toArray T fz)) : Win w b cs :=
  ⟨_, _, _, h, fun j _ => by rw [h0, Nat.zero_add]; simp⟩
structure OkV (σ : Fm) (H : Own) (a : Act) (w : World) (ρ : Nat → Nat × Nat) : Prop where
  val : ∀ t v, look σ t = some v → v.cond → a.tmps[t]? = some (v.den ρ)
  heap : ∀ l B, look H l = some B → Win w (ρ l) B.cells
  num : ∀ l b o T cs, look H l = some (.ext b o T cs) → ρ l = (b, o)
theorem Ok.heap {cx : Cx} {σ : Fm} {H : Own} {nl : Nat} {X : Hp} {a : Act} {w : World} {ρ : Nat → Nat × Nat} (h : Ok cx σ H nl X a w ρ) {l : Nat} {B : Blk} (hl : look H l = some B) : Win w (ρ l) B.cells := by
  have h2 := (h.blk l B hl).2
  cases B with
  | own T cs => exact .of_blk h2.1 h2.2.1
  | bor b T cs => exact .of_blk (by rw [h2.1]) h2.2.1
  | ext b o T cs =>
    obtain ⟨e, full, fz, hx, hc⟩ := h2
    rw [e]
    exact ⟨full, T, fz, h.sub _ _ hx, hc⟩
theorem Ok.v {cx : Cx} {σ : Fm} {H : Own} {nl : Nat} {X : Hp} {a : Act} {w : World} {ρ : Nat → Nat × Nat} (h : Ok cx σ H nl X a w ρ) : OkV σ H a w ρ :=
  ⟨h.val, fun _ _ hl => h.heap hl, fun _ _ _ _ _ hl => ((h.blk _ _ hl).2).1⟩
theorem OkV.eval {σ : Fm} {H : Own} {a : Act} {w : World} {ρ : Nat → Nat × Nat} (h : OkV σ H a w ρ) {x : Operand} {v : SV} (hx : Fw.ev σ x = some v) (hc : v.cond) : a.eval x = v.den ρ := by
  cases x with
  | tmp t => simp [Act.eval, Array.getD_eq_getD_getElem?, h.val t v hx hc]
  | const c => simp only [Fw.ev, Option.some.injEq] at hx; subst hx; rfl
  | global g => simp only [Fw.ev, Option.some.injEq] at hx; subst hx; rfl
  | func f => simp only [Fw.ev, Option.some.injEq] at hx; subst hx; rfl
theorem Ok.eval {cx : Cx} {σ : Fm} {H : Own} {nl : Nat} {X : Hp} {a : Act} {w : World} {ρ : Nat → Nat × Nat} (h : Ok cx σ H nl X a w ρ) {x : Operand} {v : SV} (hx : Fw.ev σ x = some v) (hc : v.cond) : a.eval x = v.den ρ := h.v.eval hx hc
theorem Ok.below {cx : Cx} {σ : Fm} {H : Own} {nl : Nat} {X : Hp} {a : Act} {w : World} {ρ : Nat → Nat × Nat} (h : Ok cx σ H nl X a w ρ) {x : Operand} {v : SV} (hx : Fw.ev σ x = some v) : v.below nl := by
  cases x with
  | tmp t => exact h.lab t v hx
  | const c => simp only [Fw.ev, Option.some.injEq] at hx; subst hx; trivial
  | global g => simp only [Fw.ev, Option.some.injEq] at hx; subst hx; trivial
  | func f => simp only [Fw.ev, Option.some.injEq] at hx; subst hx; trivial
theorem real_cond {H : Own} {s : SV} {v : Value} (hs : Fw.real H s = some v) : s.cond := by
  cases s <;> first | trivial | simp [Fw.real] at hs
theorem OkV.real {σ : Fm} {H : Own} {a : Act} {w : World} {ρ : Nat → Nat × Nat} (h : OkV σ H a w ρ) {s : SV} {v : Value} (hs : Fw.real H s = some v) : s.den ρ = v := by
  cases s <;> simp only [Fw.real] at hs
  case v x => simpa [SV.den] using hs
  case g => cases hs
  case gp => cases hs
  all_goals
    split at hs
    · rename_i b o T cs hl
      have e := h.num _ _ _ _ _ hl
      simpa [SV.den, e] using hs
    · cases hs
theorem OkV.evals {σ : Fm} {H : Own} {a : Act} {w : World} {ρ : Nat → Nat × Nat} (h : OkV σ H a w ρ) : ∀ {l : List Operand} {vs : List Value}, evs σ H l = some vs → l.map a.eval = vs := by
  intro l
  induction l with
  | nil => intro vs hv; simp [evs] at hv; simp [hv]
  | cons x r ih =>
    intro vs hv
    simp only [evs] at hv
    split at hv
    · rename_i s hx
      split at hv
      · rename_i v hs
        split at hv
        · rename_i vs' hr
          obtain rfl := Option.some.inj hv
          simp [ih hr, h.eval hx (real_cond hs), h.real hs]
        · cases hv
      · cases hv
    · cases hv

/-- Where a value is put: nothing, or a slot of the frame. -/
def putS (n : Nat) (dst : Option Tmp) (v : SV) (σ : Fm) : Option Fm :=
  match dst with
  | none => some σ
  | some d => match Nat.blt d n with
    | true => some ((d, v) :: σ)
    | false => none
theorem Act.put_tmps (a : Act) (dst : Option Tmp) (v : Value) : (a.put dst v).tmps.size = a.tmps.size := by
  cases dst <;> simp [Act.put]
theorem Act.put_defers (a : Act) (dst : Option Tmp) (v : Value) : (a.put dst v).defers = a.defers := by
  cases dst <;> simp [Act.put]
theorem Ok.put {cx : Cx} {σ σ' : Fm} {H : Own} {nl : Nat} {X : Hp} {a : Act} {w : World} {ρ : Nat → Nat × Nat} (h : Ok cx σ H nl X a w ρ) {dst : Option Tmp} {v : SV} (hp : putS cx.n dst v σ = some σ') (hb : v.below nl) :
    Ok cx σ' H nl X (a.put dst (v.den ρ)) w ρ := by
  cases dst with
  | none => simp only [putS, Option.some.injEq] at hp; subst hp; exact h
  | some d =>
    simp only [putS] at hp
    cases hd : Nat.blt d cx.n with
    | false => rw [hd] at hp; cases hp
    | true =>
      rw [hd] at hp
      obtain rfl := Option.some.inj hp
      have hdn : d < cx.n := Nat.le_of_ble_eq_true hd
      refine ⟨by rw [Act.put_tmps, h.size], by rw [Act.put_defers, h.defers], ?_, ?_, h.blk, h.inj, h.sub, h.ev, h.dom⟩
      · intro t u ht hc
        by_cases e : d = t
        · subst e
          rw [look_cons_self] at ht
          obtain rfl := Option.some.inj ht
          simp [Act.put, h.size, hdn]
        · rw [look_cons_ne _ _ e] at ht
          simp only [Act.put]
          rw [Array.getElem?_setIfInBounds_ne e]
          exact h.val t u ht hc
      · intro t u ht
        by_cases e : d = t
        · subst e
          rw [look_cons_self] at ht
          obtain rfl := Option.some.inj ht
          exact hb
        · rw [look_cons_ne _ _ e] at ht
          exact h.lab t u ht
/-- Less may be known of a frame and of blocks. -/
theorem Ok.weaken {cx : Cx} {σ σ' : Fm} {H H' : Own} {nl : Nat} {X : Hp} {a : Act} {w : World} {ρ : Nat → Nat × Nat} (h : Ok cx σ H nl X a w ρ)
    (hs : ∀ t v, look σ' t = some v → look σ t = some v) (ho : ∀ l c, look H' l = some c → look H l = some c) : Ok cx σ' H' nl X a w ρ :=
  ⟨h.size, h.defers, fun t v e => h.val t v (hs t v e), fun t v e => h.lab t v (hs t v e), fun l B e => h.blk l B (ho l _ e),
    fun l l' B B' e e' => h.inj l l' B B' (ho _ _ e) (ho _ _ e'), h.sub, h.ev, h.dom⟩
/-- A block is laid: it is the call's own, under the label nl. -/
theorem Ok.alloc {cx : Cx} {σ : Fm} {H : Own} {nl : Nat} {X : Hp} {a : Act} {w : World} {ρ : Nat → Nat × Nat} (h : Ok cx σ H nl X a w ρ) (T : TypeId) (cs : List Value) :
    Ok cx σ ((nl, .own T cs) :: H) (nl + 1) X a { w with heap := w.heap.push (.cells cs.toArray T) } (fun l => if l = nl then (w.heap.size, 0) else ρ l) := by
  have hsub : Sub X { w with heap := w.heap.push (.cells cs.toArray T) } := fun b o hb => by
    have hl := lt_of_heap (h.sub b o hb)
    simp only [Array.getElem?_push]
    rw [if_neg (by omega)]; exact h.sub b o hb
  have hX : X w.heap.size = none := by
    cases e : X w.heap.size with
    | none => rfl
    | some o => have := lt_of_heap (h.sub _ o e); omega
  refine ⟨h.size, h.defers, ?_, ?_, ?_, ?_, hsub, ?_, h.dom⟩
  · intro t v ht hc
    rw [h.val t v ht hc]
    have hb := h.lab t v ht
    cases v <;> simp only [SV.den, SV.below] at hb ⊢
    all_goals rw [if_neg (Nat.ne_of_lt hb)]
  · intro t v ht
    have hb := h.lab t v ht
    cases v <;> simp only [SV.below] at hb ⊢
    all_goals exact Nat.lt_succ_of_lt hb
  · intro l B hl
    by_cases e : nl = l
    · subst e
      rw [look_cons_self] at hl
      obtain rfl := Option.some.inj hl
      refine ⟨by omega, ?_⟩
      simp only [if_pos, Blk.ok]
      exact ⟨trivial, by simp, hX, .inr h.ev.size⟩
    · rw [look_cons_ne _ _ e] at hl
      obtain ⟨h1, h2⟩ := h.blk l B hl
      refine ⟨by omega, ?_⟩
      rw [if_neg (by omega)]
      cases B <;> simp only [Blk.ok] at h2 ⊢
      · have hlt := lt_of_heap h2.2.1
        exact ⟨h2.1, by simp only [Array.getElem?_push]; rw [if_neg (by omega)]; exact h2.2.1, h2.2.2⟩
      · have hlt := lt_of_heap h2.2.1
        exact ⟨h2.1, by simp only [Array.getElem?_push]; rw [if_neg (by omega)]; exact h2.2.1, h2.2.2⟩
      · exact h2
  · have key : ∀ l B, look H l = some B → B.mine = true → (ρ l).1 < w.heap.size := by
      intro l B hl hm
      have h2 := (h.blk l B hl).2
      cases B <;> simp only [Blk.ok, Blk.mine] at h2 hm
      · exact lt_of_heap h2.2.1
      · exact lt_of_heap h2.2.1
      · cases hm
    intro l l' B B' hl hl' hm hm' he
    by_cases e : nl = l
    · by_cases e' : nl = l'
      · omega
      · rw [look_cons_ne _ _ e'] at hl'
        have := key l' B' hl' hm'
        rw [if_pos e.symm, if_neg (Ne.symm e')] at he
        simp only at he
        omega
    · rw [look_cons_ne _ _ e] at hl
      by_cases e' : nl = l'
      · have := key l B hl hm
        rw [if_neg (Ne.symm e), if_pos e'.symm] at he
        simp only at he
        omega
      · rw [look_cons_ne _ _ e'] at hl'
        rw [if_neg (Ne.symm e), if_neg (Ne.symm e')] at he
        exact h.inj l l' B B' hl hl' hm hm' he
  · refine ⟨h.ev.os, h.ev.tape, h.ev.output, h.ev.drawn, ?_, ?_⟩
    · have := h.ev.size; simp only [Array.size_push]; omega
    · intro b o hb hx
      have hk := h.ev.keep b o hb hx
      have hlt := lt_of_heap hk
      simp only [Array.getElem?_push]
      rw [if_neg (by omega)]; exact hk
end Go.Fw
/- The computed executor of the walking kit: pure operations on frames and blocks with labels, and that it is sound. -/
namespace Go.Fw
open Go.RowKit

/-! ## types, and lists of cells -/
structure TI where
  desc : TypeDesc
  size : Nat
  bytes : Nat
  zero : Option Value
  agg : Bool
  flds : List (Nat × TypeId)
structure TI.Fits (P : Program) (t : TypeId) (i : TI) : Prop where
  info : ∃ f, P.info? t = some f ∧ f.size = i.size ∧ f.bytes = i.bytes ∧ f.zero = i.zero
  und : P.underlying t = some i.desc
  agg : (match i.desc with | .struct _ | .array _ _ => true | _ => false) = i.agg
  flds : ∀ fs, i.desc = .struct fs → fs.toList.map (fun f => (f.offset, f.type)) = i.flds
abbrev Te := TypeId → Option TI
def TeOk (P : Program) (te : Te) : Prop := ∀ t i, te t = some i → i.Fits P t
def cellsL : Value → List Value
  | .agg ⟨cs⟩ => cs
  | v => [v]
theorem cellsL_eq (v : Value) : v.cells.toList = cellsL v := by cases v <;> rfl
def nthL {α : Type} : List α → Nat → Option α
  | [], _ => none
  | x :: _, 0 => some x
  | _ :: r, n + 1 => nthL r n
theorem nthL_eq {α : Type} : ∀ (l : List α) (n : Nat), nthL l n = l[n]? := by
  intro l
  induction l with
  | nil => intro n; rfl
  | cons x r ih => intro n; cases n with
    | zero => rfl
    | succ n => simp [nthL, ih]
def tkL : List Value → Nat → Option (List Value)
  | _, 0 => some []
  | [], _ + 1 => none
  | c :: cs, n + 1 => match tkL cs n with
    | some r => some (c :: r)
    | none => none
def slc : List Value → Nat → Nat → Option (List Value)
  | cs, 0, n => tkL cs n
  | [], _ + 1, _ => none
  | _ :: cs, o + 1, n => slc cs o n
theorem tkL_spec : ∀ {cs : List Value} {n : Nat} {r : List Value}, tkL cs n = some r → r.length = n ∧ ∀ j, j < n → cs[j]? = r[j]? := by
  intro cs
  induction cs with
  | nil => intro n r h; cases n with
    | zero => simp [tkL] at h; subst h; simp
    | succ n => simp [tkL] at h
  | cons c cs ih =>
    intro n r h
    cases n with
    | zero => simp [tkL] at h; subst h; simp
    | succ n =>
      simp only [tkL] at h
      split at h
      · rename_i r' hr
        obtain rfl := Option.some.inj h
        obtain ⟨h1, h2⟩ := ih hr
        refine ⟨by simp [h1], fun j hj => ?_⟩
        cases j with
        | zero => rfl
        | succ j => simpa using h2 j (by omega)
      · cases h
theorem slc_spec : ∀ {cs : List Value} {o n : Nat} {r : List Value}, slc cs o n = some r → r.length = n ∧ ∀ j, j < n → cs[o + j]? = r[j]? := by
  intro cs o
  induction o generalizing cs with
  | zero => intro n r h; have h' : tkL cs n = some r := by cases cs <;> exact h
            obtain ⟨h1, h2⟩ := tkL_spec h'; exact ⟨h1, fun j hj => by rw [Nat.zero_add]; exact h2 j hj⟩
  | succ o ih =>
    intro n r h
    cases cs with
    | nil => simp [slc] at h
    | cons c cs =>
      obtain ⟨h1, h2⟩ := ih (cs := cs) h
      exact ⟨h1, fun j hj => by rw [show o + 1 + j = (o + j) + 1 by omega]; simpa using h2 j hj⟩
def putF : List Value → Nat → List Value → Option (List Value)
  | cs, 0, [] => some cs
  | [], 0, _ :: _ => none
  | _ :: cs, 0, v :: vs => match putF cs 0 vs with
    | some r => some (v :: r)
    | none => none
  | [], _ + 1, _ => none
  | c :: cs, o + 1, vs => match putF cs o vs with
    | some r => some (c :: r)
    | none => none
/-- The plain meaning of 'putF'. -/
def putL (cs : List Value) : Nat → List Value → List Value
  | _, [] => cs
  | o, v :: vs => putL (cs.set o v) (o + 1) vs
theorem putL_cons_succ (c : Value) : ∀ (vs : List Value) (cs : List Value) (o : Nat), putL (c :: cs) (o + 1) vs = c :: putL cs o vs := by
  intro vs
  induction vs with
  | nil => intro cs o; rfl
  | cons v vs ih => intro cs o; simp [putL, ih]
theorem putF_spec : ∀ {cs : List Value} {o : Nat} {vs r : List Value}, putF cs o vs = some r → r = putL cs o vs ∧ o + vs.length ≤ cs.length := by
  intro cs
  induction cs with
  | nil =>
    intro o vs r h
    cases o with
    | zero => cases vs with
      | nil => simp [putF] at h; subst h; simp [putL]
      | cons v vs => simp [putF] at h
    | succ o => simp [putF] at h
  | cons c cs ih =>
    intro o vs r h
    cases o with
    | zero => cases vs with
      | nil => simp [putF] at h; subst h; simp [putL]
      | cons v vs =>
        simp only [putF] at h
        split at h
        · rename_i r' hr
          obtain rfl := Option.some.inj h
          obtain ⟨h1, h2⟩ := ih hr
          refine ⟨?_, by simp at h2 ⊢; omega⟩
          simp [putL, putL_cons_succ, h1]
        · cases h
    | succ o =>
      simp only [putF] at h
      split at h
      · rename_i r' hr
        obtain rfl := Option.some.inj h
        obtain ⟨h1, h2⟩ := ih hr
        exact ⟨by rw [putL_cons_succ, h1], by simp; omega⟩
      · cases h
theorem putL_length : ∀ (vs : List Value) (cs : List Value) (o : Nat), (putL cs o vs).length = cs.length := by
  intro vs
  induction vs with
  | nil => intro cs o; rfl
  | cons v vs ih => intro cs o; simp [putL, ih]
def one : Value → Bool
  | .agg _ | .tuple _ => false
  | _ => true
def allOne : List Value → Bool
  | [] => true
  | v :: vs => match one v with
    | true => allOne vs
    | false => false
theorem allOne_spec : ∀ {vs : List Value}, allOne vs = true → ∀ v ∈ vs, one v = true := by
  intro vs
  induction vs with
  | nil => intro _ v h; cases h
  | cons x vs ih =>
    intro h v hv
    simp only [allOne] at h
    cases hx : one x with
    | false => rw [hx] at h; cases h
    | true =>
      rw [hx] at h
      rcases List.mem_cons.1 hv with rfl | hv
      · exact hx
      · exact ih h v hv

/-! ## blocks in a world -/
theorem cell_of_blk {w : World} {b o : Nat} {cs : List Value} {T : TypeId} {fz : Nat × Nat} (h : w.heap[b]? = some (.cells cs.toArray T fz)) : w.cell? ⟨b, o, none⟩ = cs[o]? := by
  simp [World.cell?, h]
def World.setBlk (w : World) (b : Nat) (o : Obj) : World := { w with heap := w.heap.setIfInBounds b o }
theorem addr_add (b o n : Nat) : (⟨b, o, none⟩ : Addr).add n = ⟨b, o + n, none⟩ := by
  unfold Addr.add; split
  · subst_vars; rfl
  · rfl
theorem run_loadCells_blk {P : Program} {w : World} {b o : Nat} {cs r : List Value} {T : TypeId} {fz : Nat × Nat} {n : Nat} (h : w.heap[b]? = some (.cells cs.toArray T fz)) (hs : slc cs o n = some r) :
    (loadCells ⟨b, o, none⟩ n).run P w = .ok r.toArray w := by
  obtain ⟨h1, h2⟩ := slc_spec hs
  subst h1
  exact run_loadCells_list w ⟨b, o, none⟩ r (fun j v hj => by
    rw [addr_add, cell_of_blk h]
    have hlt : j < r.length := by
      rcases Nat.lt_or_ge j r.length with h' | h'
      · exact h'
      · simp [List.getElem?_eq_none h'] at hj
    rw [h2 j hlt]; exact hj)
theorem run_loadCells_win {P : Program} {w : World} {b : Nat × Nat} {o : Nat} {cs r : List Value} {n : Nat} (h : Win w b cs) (hs : slc cs o n = some r) :
    (loadCells ⟨b.1, b.2 + o, none⟩ n).run P w = .ok r.toArray w := by
  obtain ⟨h1, h2⟩ := slc_spec hs
  obtain ⟨full, T, fz, hh, hc⟩ := h
  subst h1
  exact run_loadCells_list w ⟨b.1, b.2 + o, none⟩ r (fun j v hj => by
    have hlt : j < r.length := by
      rcases Nat.lt_or_ge j r.length with h' | h'
      · exact h'
      · simp [List.getElem?_eq_none h'] at hj
    have h3 := h2 j hlt
    have hoc : o + j < cs.length := by
      rcases Nat.lt_or_ge (o + j) cs.length with h' | h'
      · exact h'
      · rw [List.getElem?_eq_none h', hj] at h3; cases h3
    rw [addr_add]
    simp only [World.cell?, hh]
    rw [if_neg (by simp), Nat.add_assoc, hc _ hoc, h3]; exact hj)
theorem cell_of_win {w : World} {b : Nat × Nat} {o : Nat} {cs : List Value} {v : Value} (h : Win w b cs) (hv : cs[o]? = some v) : w.cell? ⟨b.1, b.2 + o, none⟩ = some v := by
  obtain ⟨full, T, fz, hh, hc⟩ := h
  have hoc : o < cs.length := by
    rcases Nat.lt_or_ge o cs.length with h' | h'
    · exact h'
    · simp [List.getElem?_eq_none h'] at hv
  simp only [World.cell?, hh]
  rw [if_neg (by simp), hc _ hoc]; exact hv
theorem setCell_blk {w : World} {b o : Nat} {cs : List Value} {T : TypeId} (h : w.heap[b]? = some (.cells cs.toArray T (0, 0))) (v : Value) :
    w.setCell ⟨b, o, none⟩ v = World.setBlk w b (.cells (cs.set o v).toArray T (0, 0)) := by
  have hb : b < w.heap.size := lt_of_heap h
  unfold World.setCell World.setBlk
  congr 1
  apply Array.ext_getElem?
  intro i
  by_cases e : b = i
  · subst e
    rw [Array.getElem?_modify, if_pos rfl, h, Array.getElem?_setIfInBounds_self_of_lt hb]
    simp
  · rw [Array.getElem?_setIfInBounds_ne e, Array.getElem?_modify, if_neg e]
theorem setBlk_heap {w : World} {b : Nat} {o : Obj} (hb : b < w.heap.size) : (World.setBlk w b o).heap[b]? = some o := by
  simp [World.setBlk, hb]
theorem setBlk_setBlk (w : World) (b : Nat) (o o' : Obj) : World.setBlk (World.setBlk w b o) b o' = World.setBlk w b o' := by
  simp [World.setBlk]
theorem setBlk_self {w : World} {b : Nat} {o : Obj} (h : w.heap[b]? = some o) : World.setBlk w b o = w := by
  have hb : b < w.heap.size := lt_of_heap h
  unfold World.setBlk
  have : w.heap.setIfInBounds b o = w.heap := by
    apply Array.ext_getElem?
    intro i
    by_cases e : b = i
    · subst e; rw [Array.getElem?_setIfInBounds_self_of_lt hb, h]
    · rw [Array.getElem?_setIfInBounds_ne e]
  rw [this]
theorem run_storeCells_blk {P : Program} {b o : Nat} {T : TypeId} : ∀ (vs : List Value) (i : Nat) (w : World) (cs : List Value), w.heap[b]? = some (.cells cs.toArray T (0, 0)) → o + i + vs.length ≤ cs.length → (∀ v ∈ vs, one v = true) →
    (storeCells ⟨b, o, none⟩ vs i).run P w = .ok () (World.setBlk w b (.cells (putL cs (o + i) vs).toArray T (0, 0))) := by
  intro vs
  induction vs with
  | nil => intro i w cs h _ _; simp [storeCells, putL, setBlk_self h]
  | cons v vs ih =>
    intro i w cs h hl h1
    simp only [storeCells, Sem.run_bind]
    have hcell : w.cell? ⟨b, o + i, none⟩ = some (cs[o + i]'(by simp at hl; omega)) := by
      rw [cell_of_blk h]; simp at hl; rw [List.getElem?_eq_getElem (by omega)]
    have hfz : w.frozen? ⟨b, o + i, none⟩ = false := by simp [World.frozen?, h]
    have hst : (store ((⟨b, o, none⟩ : Addr).add i) v).run P w = .ok () (World.setBlk w b (.cells (cs.set (o + i) v).toArray T (0, 0))) := by
      rw [addr_add]
      have hv := h1 v (by simp)
      cases v <;> first | (simp [one] at hv; done) | simp only [store, Sem.run, hcell, hfz, Bool.false_eq_true, if_false, setCell_blk h]
    rw [hst]
    simp only [Result.andThen_ok]
    have hb : b < w.heap.size := lt_of_heap h
    rw [ih (i + 1) (World.setBlk w b (.cells (cs.set (o + i) v).toArray T (0, 0))) (cs.set (o + i) v) (setBlk_heap hb) (by simp at hl ⊢; omega) (fun u hu => h1 u (by simp [hu]))]
    rw [setBlk_setBlk]
    simp [putL, Nat.add_assoc]
end Go.Fw
/- The computed executor, its operations: what each pure operation gives, and that the machine gives just that. -/
namespace Go.Fw
open Go.RowKit

section runs
variable {P : Program} {t : TypeId} {i : TI} (w : World)
theorem run_und (h : i.Fits P t) : (underlying t).run P w = .ok i.desc w := by
  simp [underlying, h.und, program, Sem.run]
theorem run_size (h : i.Fits P t) : (sizeOf t).run P w = .ok i.size w := by
  obtain ⟨f, h1, h2, _⟩ := h.info
  simp [sizeOf, typeInfo, h1, h2, program, Sem.run]
theorem run_bytes (h : i.Fits P t) : ∃ f, (typeInfo t).run P w = .ok f w ∧ f.bytes = i.bytes ∧ f.size = i.size := by
  obtain ⟨f, h1, h2, h3, _⟩ := h.info
  exact ⟨f, by simp [typeInfo, h1, program, Sem.run], h3, h2⟩
theorem run_zero (h : i.Fits P t) {z : Value} (hz : i.zero = some z) : (zeroValue t).run P w = .ok z w := by
  obtain ⟨f, h1, _, _, h2⟩ := h.info
  simp [zeroValue, typeInfo, h1, h2, hz, program, Sem.run]
theorem run_agg (h : i.Fits P t) : (isAgg t).run P w = .ok i.agg w := by
  have := h.agg
  simp only [isAgg, Sem.run_bind, run_und w h, Result.andThen_ok]
  rw [← this]
  cases i.desc <;> rfl
end runs

/-! ## values -/
def evP (σ : Fm) (x : Operand) : Option SV :=
  match ev σ x with
  | some (.g _ _ _) => none
  | some (.gp _ _ _ _) => none
  | r => r
theorem evP_spec {σ : Fm} {x : Operand} {s : SV} (h : evP σ x = some s) : ev σ x = some s ∧ s.cond := by
  unfold evP at h
  split at h
  · cases h
  · cases h
  · rename_i h1 h2
    refine ⟨h, ?_⟩
    cases s <;> first | trivial | exact absurd h (h1 _ _ _) | exact absurd h (h2 _ _ _ _)
def partO (te : Te) (T : TypeId) (cs : List Value) (off : Nat) : Option Value :=
  match te T with
  | none => none
  | some i => match i.agg with
    | true => match slc cs off i.size with
      | some r => some (.agg ⟨r⟩)
      | none => none
    | false => nthL cs off
def exLoad (te : Te) (σ : Fm) (H : Own) (T : TypeId) (x : Operand) : Option SV :=
  match ev σ x with
  | some (.p l off) => match look H l with
    | some B => match partO te T B.cells off with
      | some v => some (.v v)
      | none => none
    | none => none
  | _ => none
def bopI (op : BinOp) (k : IntKind) (m n : Int) : Option Value :=
  match op with
  | .add => some (.int k (k.wrap (m + n)))
  | .sub => some (.int k (k.wrap (m - n)))
  | .mul => some (.int k (k.wrap (m * n)))
  | .eql => some (.bool (m == n))
  | .neq => some (.bool (m != n))
  | .lss => some (.bool (decide (m < n)))
  | .leq => some (.bool (decide (m ≤ n)))
  | .gtr => some (.bool (decide (m > n)))
  | .geq => some (.bool (decide (m ≥ n)))
  | .and => some (.int k (k.wrap (BitVec.ofInt k.bits m &&& BitVec.ofInt k.bits n).toNat))
  | .or => some (.int k (k.wrap (BitVec.ofInt k.bits m ||| BitVec.ofInt k.bits n).toNat))
  | .xor => some (.int k (k.wrap (BitVec.ofInt k.bits m ^^^ BitVec.ofInt k.bits n).toNat))
  | _ => none
def sameK : IntKind → IntKind → Bool
  | .i8, .i8 | .i16, .i16 | .i32, .i32 | .i64, .i64 | .u8, .u8 | .u16, .u16 | .u32, .u32 | .u64, .u64 => true
  | _, _ => false
theorem sameK_spec {j k : IntKind} (h : sameK j k = true) : j = k := by cases j <;> cases k <;> first | rfl | cases h
def bopB (te : Te) (op : BinOp) (T : TypeId) (a b : Bool) : Option Value :=
  match te T with
  | some { desc := .bool, .. } => match op with
    | .eql => some (.bool (a == b))
    | .neq => some (.bool (!(a == b)))
    | _ => none
  | _ => none
def bopS (op : BinOp) (a b : ByteArray) : Option Value :=
  match op with
  | .eql => some (.bool (a.toList == b.toList))
  | .neq => some (.bool (!(a.toList == b.toList)))
  | .lss => some (.bool (Op.bytesLess a.toList b.toList))
  | .leq => some (.bool (Op.bytesLess a.toList b.toList || a.toList == b.toList))
  | .gtr => some (.bool (!(Op.bytesLess a.toList b.toList || a.toList == b.toList)))
  | .geq => some (.bool (!(Op.bytesLess a.toList b.toList)))
  | _ => none
/-- Is a pointer nil? -/
def nilSV : SV → Option Bool
  | .v (.pointer none) => some true
  | .v (.pointer (some _)) => some false
  | .p _ _ => some false
  | _ => none
def bopN (te : Te) (op : BinOp) (T : TypeId) (a b : SV) : Option Value :=
  match te T with
  | some i => match i.desc, a, b with
    | .pointer _, a, .v (.pointer none) => match op, nilSV a with
      | .eql, some c => some (.bool c)
      | .neq, some c => some (.bool (!c))
      | _, _ => none
    | .map _ _, .v (.map (some _)), .v (.map none) => match op with
      | .eql => some (.bool false)
      | .neq => some (.bool true)
      | _ => none
    | .map _ _, .v (.map none), .v (.map none) => match op with
      | .eql => some (.bool true)
      | .neq => some (.bool false)
      | _ => none
    | _, _, _ => none
  | _ => none
def exBin (te : Te) (σ : Fm) (op : BinOp) (T : TypeId) (x y : Operand) : Option SV :=
  match ev σ x, ev σ y with
  | some (.v (.int j m)), some (.v (.int k n)) => match sameK j k with
    | true => match bopI op k m n with
      | some v => some (.v v)
      | none => none
    | false => none
  | some (.v (.bool a)), some (.v (.bool b)) => match bopB te op T a b with
    | some v => some (.v v)
    | none => none
  | some (.v (.string a)), some (.v (.string b)) => match bopS op a b with
    | some v => some (.v v)
    | none => none
  | some a, some b => match bopN te op T a b with
    | some v => some (.v v)
    | none => none
  | _, _ => none
def exUn (σ : Fm) (op : UnOp) (x : Operand) : Option SV :=
  match op, ev σ x with
  | .neg, some (.v (.int k n)) => some (.v (.int k (k.wrap (0 - n))))
  | .not, some (.v (.bool b)) => some (.v (.bool (!b)))
  | .xor, some (.v (.int k n)) => some (.v (.int k (k.wrap (BitVec.ofInt k.bits (if k.signed then -1 else k.max) ^^^ BitVec.ofInt k.bits n).toNat)))
  | _, _ => none
def exConv (te : Te) (σ : Fm) (src dst : TypeId) (x : Operand) : Option SV :=
  match te src, te dst, ev σ x with
  | some _, some d, some (.v (.int _ n)) => match d.desc with
    | .int k => some (.v (.int k (k.wrap n)))
    | _ => none
  | some _, some d, some (.v (.string s)) => match d.desc with
    | .string => some (.v (.string s))
    | _ => none
  | _, _, _ => none
def exField (te : Te) (σ : Fm) (T : TypeId) (x : Operand) (n : Nat) : Option SV :=
  match te T with
  | some i => match i.desc with
    | .struct _ => match nthL i.flds n with
      | some (off, ft) => match ev σ x with
        | some (.v (.agg ⟨cs⟩)) => match partO te ft cs off with
          | some v => some (.v v)
          | none => none
        | _ => none
      | none => none
    | _ => none
  | none => none
def exFieldAddr (te : Te) (σ : Fm) (T : TypeId) (x : Operand) (n : Nat) : Option SV :=
  match te T with
  | some i => match i.desc with
    | .struct _ => match nthL i.flds n with
      | some (off, ft) => match te ft with
        | some fi => match Nat.blt 0 fi.size with
          | true => match ev σ x with
            | some (.p l o) => some (.p l (o + off))
            | some (.v (.pointer (some ⟨b, o, none⟩))) => some (.v (.pointer (some ⟨b, o + off, none⟩)))
            | _ => none
          | false => none
        | none => none
      | none => none
    | _ => none
  | none => none
def exNil (σ : Fm) (x : Operand) : Option SV :=
  match ev σ x with
  | some (.p l o) => some (.p l o)
  | some (.v (.pointer (some a))) => some (.v (.pointer (some a)))
  | some (.v (.func (.func f) fi ca)) => some (.v (.func (.func f) fi ca))
  | _ => none
def exExtract (σ : Fm) (x : Operand) (n : Nat) : Option SV :=
  match ev σ x with
  | some (.v (.tuple ⟨vs⟩)) => match nthL vs n with
    | some v => some (.v v)
    | none => none
  | _ => none
def exIface (te : Te) (σ : Fm) (T : TypeId) (x : Operand) : Option SV :=
  match te T with
  | some i => match i.desc with
    | .interface _ => none
    | _ => match ev σ x with
      | some (.v v) => some (.v (.iface T v))
      | _ => none
  | none => none
def exFunc (σ : Fm) (H : Own) (fn : Fn) (fi ca : Array Operand) : Option SV :=
  match evs σ H fi.toList with
  | some vs => match evs σ H ca.toList with
    | some us => some (.v (.func fn ⟨vs⟩ ⟨us⟩))
    | none => none
  | none => none
def lenSV (d : TypeDesc) : SV → Option Value
  | .v (.string s) => match d with
    | .string => some (.int .i64 s.size)
    | _ => none
  | .v (.slice _ n _) => match d with
    | .slice _ => some (.int .i64 n)
    | _ => none
  | .sl _ _ n _ => match d with
    | .slice _ => some (.int .i64 n)
    | _ => none
  | .sy _ _ n _ => match d with
    | .slice _ => some (.int .i64 n)
    | _ => none
  | _ => none
def exBuiltin (te : Te) (σ : Fm) (b : Builtin) (args : List Operand) (tys : List TypeId) : Option SV :=
  match b, args, tys with
  | .len, x :: [], t :: [] => match te t, ev σ x with
    | some i, some s => match lenSV i.desc s with
      | some v => some (.v v)
      | none => none
    | _, _ => none
  | .min, x :: y :: [], _ => match ev σ x, ev σ y with
    | some (.v (.int j m)), some (.v (.int _ n)) => some (.v (.int j (if n < m then n else m)))
    | _, _ => none
  | .max, x :: y :: [], _ => match ev σ x, ev σ y with
    | some (.v (.int j m)), some (.v (.int _ n)) => some (.v (.int j (if m < n then n else m)))
    | _, _ => none
  | _, _, _ => none
def fillL (place : Nat → Option (Nat × Nat)) (cells : List Value) : List (Nat × Value) → Option (List Value)
  | [] => some cells
  | (i, v) :: rest => match place i with
    | none => none
    | some (off, size) => match Nat.beq (cellsL v).length size with
      | true => match putF cells off (cellsL v) with
        | some c => fillL place c rest
        | none => none
      | false => none
def sizesL (te : Te) : List (Nat × TypeId) → Option (List (Nat × Nat))
  | [] => some []
  | (off, t) :: r => match te t with
    | some i => match sizesL te r with
      | some l => some ((off, i.size) :: l)
      | none => none
    | none => none
def evParts (σ : Fm) (H : Own) : List (Nat × Operand) → Option (List (Nat × Value))
  | [] => some []
  | (i, x) :: r => match ev σ x with
    | some s => match real H s with
      | some v => match evParts σ H r with
        | some l => some ((i, v) :: l)
        | none => none
      | none => none
    | none => none
def exBuild (te : Te) (σ : Fm) (H : Own) (T : TypeId) (parts : Array (Nat × Operand)) : Option SV :=
  match te T with
  | some i => match i.zero with
    | some z => match evParts σ H parts.toList with
      | some ps => match i.desc with
        | .struct _ => match sizesL te i.flds with
          | some pl => match fillL (nthL pl) (cellsL z) ps with
            | some cs => some (.v (.agg ⟨cs⟩))
            | none => none
          | none => none
        | .array _ e => match te e with
          | some ei => match fillL (fun j => some (j * ei.size, ei.size)) (cellsL z) ps with
            | some cs => some (.v (.agg ⟨cs⟩))
            | none => none
          | none => none
        | _ => none
      | none => none
    | none => none
  | none => none
def exIndexAddr (te : Te) (σ : Fm) (T : TypeId) (x y : Operand) : Option SV :=
  match te T with
  | some i => match i.desc with
    | .slice e => match te e with
      | some ei => match ev σ x, ev σ y with
        | some (.sl l off len _), some (.v (.int _ (Int.ofNat j))) => match Nat.blt j len with
          | true => some (.p l (off + j * ei.size))
          | false => none
        | _, _ => none
      | none => none
    | _ => none
  | none => none
/-- What a pure operation gives that lays and writes nothing. -/
def exv (te : Te) (σ : Fm) (H : Own) (op : Op) : Option SV :=
  match op with
  | .move x => evP σ x
  | .assign x => evP σ x
  | .load T x => exLoad te σ H T x
  | .binOp o T x y _ => exBin te σ o T x y
  | .unOp o _ x => exUn σ o x
  | .convert s d x => exConv te σ s d x
  | .field T x n => exField te σ T x n
  | .fieldAddr T x n => exFieldAddr te σ T x n
  | .nilCheck x => exNil σ x
  | .extract x n => exExtract σ x n
  | .makeInterface T x => exIface te σ T x
  | .makeFunc fn fi ca => exFunc σ H fn fi ca
  | .call { callee := .builtin b, args := args, argTypes := tys } => exBuiltin te σ b args.toList tys.toList
  | .build T parts => exBuild te σ H T parts
  | .indexAddr T x y => exIndexAddr te σ T x y
  | _ => none
end Go.Fw
/- The computed executor is sound at the operations that lay and write nothing. -/
namespace Go.Fw
open Go.RowKit
section
variable {T : TypeId} {cx : Cx} {σ : Fm} {H : Own} {a : Act} {w : World} {ρ : Nat → Nat × Nat} {te : Te} {s : SV}
/-- The machine gives the value s, and the world stays. -/
def Gives (cx : Cx) (a : Act) (w : World) (ρ : Nat → Nat × Nat) (op : Op) (s : SV) : Prop :=
  (∀ o : Oper, o.op = op → (execOp a.eval o).run cx.P w = .ok (.value (s.den ρ)) w) ∧ s.cond
theorem run_partO (hte : TeOk cx.P te) {T : TypeId} {cs : List Value} {off : Nat} {v : Value} (h : partO te T cs off = some v) (w : World) : (part T cs.toArray off).run cx.P w = .ok v w := by
  unfold partO at h
  split at h
  · cases h
  · rename_i i hi
    have hf := hte _ _ hi
    split at h
    · rename_i hag
      split at h
      · rename_i r hr
        obtain rfl := Option.some.inj h
        obtain ⟨h1, h2⟩ := slc_spec hr
        simp only [part, Sem.run_bind, run_agg w hf, hag, Result.andThen_ok, if_true, run_size w hf, Sem.run_pure]
        congr 2
        apply Array.ext'
        simp only [Array.toList_extract]
        apply List.ext_getElem?
        intro j
        rcases Nat.lt_or_ge j i.size with hj | hj
        · rw [← h2 j hj]
          simp [List.getElem?_drop, hj]
        · have : r.length ≤ j := by omega
          simp [List.getElem?_eq_none this]
          omega
      · cases h
    · rename_i hag
      rw [nthL_eq] at h
      simp [part, run_agg w hf, hag, h]
theorem evs_eval (hok : OkV σ H a w ρ) {l : Array Operand} {vs : List Value} (h : evs σ H l.toList = some vs) : l.map a.eval = ⟨vs⟩ := by
  apply Array.ext'
  simp [hok.evals h]
theorem gives_load (hte : TeOk cx.P te) (hok : OkV σ H a w ρ) {x : Operand} (h : exLoad te σ H T x = some s) : Gives cx a w ρ (.load T x) s := by
  unfold exLoad at h
  split at h
  · rename_i l off hx
    split at h
    · rename_i B hB
      split at h
      · rename_i v hv
        obtain rfl := Option.some.inj h
        refine ⟨fun o ho => ?_, trivial⟩
        have hh := hok.heap _ _ hB
        have he := hok.eval hx trivial
        simp only [SV.den] at he
        have hrun : (loadVar T ⟨(ρ l).1, (ρ l).2 + off, none⟩).run cx.P w = .ok v w := by
          unfold partO at hv
          split at hv
          · cases hv
          · rename_i i hi
            have hf := hte _ _ hi
            split at hv
            · rename_i hag
              split at hv
              · rename_i r hr
                obtain rfl := Option.some.inj hv
                simp [loadVar, run_agg w hf, hag, run_size w hf, run_loadCells_win hh hr]
              · cases hv
            · rename_i hag
              rw [nthL_eq] at hv
              have hc := cell_of_win hh hv
              simp [loadVar, run_agg w hf, hag, hc]
        simp [execOp, ho, he, Instr.loadAt, Instr.sureAddr, hrun, SV.den]
      · cases h
    · cases h
  · cases h
theorem bopI_run {op : BinOp} {k : IntKind} {m n : Int} {v : Value} (h : bopI op k m n = some v) (T : TypeId) (x y : Operand) :
    (do eqGuard op T x y (.int k m) (.int k n); binOp op T (.int k m) (.int k n)).run cx.P w = .ok v w := by
  cases op <;> simp only [bopI] at h <;> first | (cases h; done) | (obtain rfl := Option.some.inj h; simp [eqGuard, binOp, Op.intArith, Op.intCmp, Op.intBits])
theorem bopS_run {op : BinOp} {m n : ByteArray} {v : Value} (h : bopS op m n = some v) (T : TypeId) (x y : Operand) :
    (do eqGuard op T x y (.string m) (.string n); binOp op T (.string m) (.string n)).run cx.P w = .ok v w := by
  cases op <;> simp only [bopS] at h <;> first | (cases h; done) | (obtain rfl := Option.some.inj h; simp [eqGuard, binOp, Op.stringOp])
theorem equal_succ (T : TypeId) (x y : Value) : Op.equal T x y = Op.equalIn (9999 + 1) T x y := rfl
theorem equalIn_bool (hu : (underlying T).run cx.P w = .ok .bool w) (d : Nat) (m n : Bool) : (Op.equalIn (d + 1) T (.bool m) (.bool n)).run cx.P w = .ok (m == n) w := by
  simp [Op.equalIn, hu]
theorem bopB_run (hte : TeOk cx.P te) {op : BinOp} {T : TypeId} {m n : Bool} {v : Value} (h : bopB te op T m n = some v) (x y : Operand) :
    (do eqGuard op T x y (.bool m) (.bool n); binOp op T (.bool m) (.bool n)).run cx.P w = .ok v w := by
  unfold bopB at h
  split at h
  · rename_i hT
    have hf := hte _ _ hT
    have hu : (underlying T).run cx.P w = .ok .bool w := run_und w hf
    have he := equalIn_bool hu 9999 m n
    cases op <;> simp only at h <;> first | (cases h; done) | (obtain rfl := Option.some.inj h; simp only [binOp, equal_succ]; simp [eqGuard, he])
  · cases h
theorem equalIn_ptr {e : TypeId} (hu : (underlying T).run cx.P w = .ok (.pointer e) w) (d : Nat) (p : Option Addr) : (Op.equalIn (d + 1) T (.pointer p) (.pointer none)).run cx.P w = .ok p.isNone w := by
  cases p <;> simp [Op.equalIn, hu]
theorem equalIn_map {k e : TypeId} (hu : (underlying T).run cx.P w = .ok (.map k e) w) (d : Nat) (p : Option Nat) : (Op.equalIn (d + 1) T (.map p) (.map none)).run cx.P w = .ok p.isNone w := by
  cases p <;> simp [Op.equalIn, hu]
theorem bopN_run (hte : TeOk cx.P te) {op : BinOp} {T : TypeId} {p q : SV} {v : Value} (h : bopN te op T p q = some v) (x y : Operand) :
    (do eqGuard op T x y (p.den ρ) (q.den ρ); binOp op T (p.den ρ) (q.den ρ)).run cx.P w = .ok v w ∧ p.cond ∧ q.cond := by
  unfold bopN at h
  split at h
  · rename_i i hT
    have hf := hte _ _ hT
    have hu : (underlying T).run cx.P w = .ok i.desc w := run_und w hf
    split at h
    · rename_i hd
      rw [hd] at hu
      have hn := equalIn_ptr hu 9999 none
      have hs := fun a => equalIn_ptr hu 9999 (some a)
      split at h
      · rename_i c hc
        obtain rfl := Option.some.inj h
        unfold nilSV at hc
        split at hc <;> first | (cases hc; done) | (obtain rfl := Option.some.inj hc; simp only [SV.den, SV.cond, binOp, equal_succ]; simp [eqGuard, hn, hs])
      · rename_i c hc
        obtain rfl := Option.some.inj h
        unfold nilSV at hc
        split at hc <;> first | (cases hc; done) | (obtain rfl := Option.some.inj hc; simp only [SV.den, SV.cond, binOp, equal_succ]; simp [eqGuard, hn, hs])
      · cases h
    · rename_i r hd
      rw [hd] at hu
      have hs := equalIn_map hu 9999 (some r)
      cases op <;> simp only at h <;> first | (cases h; done) | (obtain rfl := Option.some.inj h; simp only [SV.den, SV.cond, binOp, equal_succ]; simp [eqGuard, hs])
    · rename_i hd
      rw [hd] at hu
      have hs := equalIn_map hu 9999 none
      cases op <;> simp only at h <;> first | (cases h; done) | (obtain rfl := Option.some.inj h; simp only [SV.den, SV.cond, binOp, equal_succ]; simp [eqGuard, hs])
    · cases h
  · cases h
theorem gives_bin (hte : TeOk cx.P te) (hok : OkV σ H a w ρ) {op : BinOp} {x y : Operand} {U : TypeId} (h : exBin te σ op T x y = some s) : Gives cx a w ρ (.binOp op T x y U) s := by
  unfold exBin at h
  split at h
  · rename_i j m k n hx hy
    split at h
    · rename_i hk
      obtain rfl := sameK_spec hk
      split at h
      · rename_i v hv
        obtain rfl := Option.some.inj h
        refine ⟨fun o ho => ?_, trivial⟩
        have ex := hok.eval hx trivial
        have ey := hok.eval hy trivial
        have hr := bopI_run (cx := cx) (w := w) hv T x y
        simp only [execOp, ho, ex, ey, SV.den]
        rw [Sem.run_bind, hr]; rfl
      · cases h
    · cases h
  · rename_i m n hx hy
    split at h
    · rename_i v hv
      obtain rfl := Option.some.inj h
      refine ⟨fun o ho => ?_, trivial⟩
      have ex := hok.eval hx trivial
      have ey := hok.eval hy trivial
      have hr := bopB_run (w := w) hte hv x y
      simp only [execOp, ho, ex, ey, SV.den]
      rw [Sem.run_bind, hr]; rfl
    · cases h
  · rename_i m n hx hy
    split at h
    · rename_i v hv
      obtain rfl := Option.some.inj h
      refine ⟨fun o ho => ?_, trivial⟩
      have ex := hok.eval hx trivial
      have ey := hok.eval hy trivial
      have hr := bopS_run (cx := cx) (w := w) hv T x y
      simp only [execOp, ho, ex, ey, SV.den]
      rw [Sem.run_bind, hr]; rfl
    · cases h
  · rename_i p q _ _ _ hx hy
    split at h
    · rename_i v hv
      obtain rfl := Option.some.inj h
      refine ⟨fun o ho => ?_, trivial⟩
      obtain ⟨hr, hp, hq⟩ := bopN_run (w := w) (ρ := ρ) hte hv x y
      have ex := hok.eval hx hp
      have ey := hok.eval hy hq
      simp only [execOp, ho, ex, ey]
      rw [Sem.run_bind, hr]; rfl
    · cases h
  · cases h
theorem gives_un (hok : OkV σ H a w ρ) {op : UnOp} {x : Operand} (h : exUn σ op x = some s) : Gives cx a w ρ (.unOp op T x) s := by
  unfold exUn at h
  split at h
  all_goals first
    | (cases h; done)
    | (rename_i hx
       obtain rfl := Option.some.inj h
       refine ⟨fun o ho => ?_, trivial⟩
       have ex := hok.eval hx trivial
       simp only [SV.den] at ex
       simp [execOp, ho, ex, Op.unary, Op.intArith, Op.intBits, SV.den])
theorem gives_conv (hte : TeOk cx.P te) (hok : OkV σ H a w ρ) {U : TypeId} {x : Operand} (h : exConv te σ T U x = some s) : Gives cx a w ρ (.convert T U x) s := by
  unfold exConv at h
  split at h
  · rename_i i d n m hi hd hx
    have hui := run_und w (hte _ _ hi)
    have hud := run_und w (hte _ _ hd)
    split at h
    · rename_i k hk
      obtain rfl := Option.some.inj h
      refine ⟨fun o ho => ?_, trivial⟩
      have ex := hok.eval hx trivial
      simp only [SV.den] at ex
      rw [hk] at hud
      simp [execOp, ho, ex, convert, hui, hud, Conv.intToInt, SV.den]
    · cases h
  · rename_i i d n hi hd hx
    have hui := run_und w (hte _ _ hi)
    have hud := run_und w (hte _ _ hd)
    split at h
    · rename_i hk
      obtain rfl := Option.some.inj h
      refine ⟨fun o ho => ?_, trivial⟩
      have ex := hok.eval hx trivial
      simp only [SV.den] at ex
      rw [hk] at hud
      simp [execOp, ho, ex, convert, hui, hud, SV.den]
    · cases h
  · cases h
theorem fld_of (hte : TeOk cx.P te) {i : TI} (hi : te T = some i) {fs : Array Field} (hd : i.desc = .struct fs) {n off : Nat} {ft : TypeId} (hn : nthL i.flds n = some (off, ft)) :
    ∃ f, fs[n]? = some f ∧ f.offset = off ∧ f.type = ft := by
  have hf := (hte _ _ hi).flds fs hd
  rw [nthL_eq, ← hf, List.getElem?_map, Array.getElem?_toList] at hn
  cases he : fs[n]? with
  | none => rw [he] at hn; cases hn
  | some f =>
    rw [he] at hn
    simp at hn
    exact ⟨f, rfl, hn.1, hn.2⟩
theorem gives_field (hte : TeOk cx.P te) (hok : OkV σ H a w ρ) {x : Operand} {n : Nat} (h : exField te σ T x n = some s) : Gives cx a w ρ (.field T x n) s := by
  unfold exField at h
  split at h
  · rename_i i hi
    have hu := run_und w (hte _ _ hi)
    split at h
    · rename_i fs hd
      rw [hd] at hu
      split at h
      · rename_i off ft hn
        obtain ⟨f, hf, rfl, rfl⟩ := fld_of hte hi hd hn
        split at h
        · rename_i cs hx
          split at h
          · rename_i v hv
            obtain rfl := Option.some.inj h
            refine ⟨fun o ho => ?_, trivial⟩
            have ex := hok.eval hx trivial
            simp only [SV.den] at ex
            have hp := run_partO hte hv w
            simp [execOp, ho, ex, Instr.field, hu, hf, asAgg, hp, SV.den]
          · cases h
        · cases h
      · cases h
    · cases h
  · cases h
theorem gives_fieldAddr (hte : TeOk cx.P te) (hok : OkV σ H a w ρ) {x : Operand} {n : Nat} (h : exFieldAddr te σ T x n = some s) : Gives cx a w ρ (.fieldAddr T x n) s := by
  unfold exFieldAddr at h
  split at h
  · rename_i i hi
    have hu := run_und w (hte _ _ hi)
    split at h
    · rename_i fs hd
      rw [hd] at hu
      split at h
      · rename_i off ft hn
        obtain ⟨f, hf, rfl, rfl⟩ := fld_of hte hi hd hn
        split at h
        · rename_i fi hfi
          have hsz := run_size w (hte _ _ hfi)
          split at h
          · rename_i hpos
            have hne : ¬ fi.size = 0 := by have := Nat.le_of_ble_eq_true hpos; omega
            split at h
            all_goals first
              | (cases h; done)
              | (rename_i hx
                 obtain rfl := Option.some.inj h
                 refine ⟨fun o ho => ?_, trivial⟩
                 have ex := hok.eval hx trivial
                 simp only [SV.den] at ex
                 simp [execOp, ho, ex, Instr.fieldAt, hu, hf, Instr.sureAddr, fieldPlace, hsz, hne, SV.den, addr_add, Nat.add_assoc])
          · cases h
        · cases h
      · cases h
    · cases h
  · cases h
theorem gives_nil (hok : OkV σ H a w ρ) {x : Operand} (h : exNil σ x = some s) : Gives cx a w ρ (.nilCheck x) s := by
  unfold exNil at h
  split at h
  all_goals first
    | (cases h; done)
    | (rename_i hx
       obtain rfl := Option.some.inj h
       refine ⟨fun o ho => ?_, trivial⟩
       have ex := hok.eval hx trivial
       simp only [SV.den] at ex
       simp [execOp, ho, ex, SV.den])
theorem gives_extract (hok : OkV σ H a w ρ) {x : Operand} {n : Nat} (h : exExtract σ x n = some s) : Gives cx a w ρ (.extract x n) s := by
  unfold exExtract at h
  split at h
  · rename_i vs hx
    split at h
    · rename_i v hv
      obtain rfl := Option.some.inj h
      refine ⟨fun o ho => ?_, trivial⟩
      have ex := hok.eval hx trivial
      simp only [SV.den] at ex
      rw [nthL_eq] at hv
      simp [execOp, ho, ex, Instr.extract, hv, SV.den]
    · cases h
  · cases h
theorem gives_iface (hte : TeOk cx.P te) (hok : OkV σ H a w ρ) {x : Operand} (h : exIface te σ T x = some s) : Gives cx a w ρ (.makeInterface T x) s := by
  unfold exIface at h
  split at h
  · rename_i i hi
    have hu := run_und w (hte _ _ hi)
    split at h
    · cases h
    · rename_i hd
      split at h
      · rename_i v hx
        obtain rfl := Option.some.inj h
        refine ⟨fun o ho => ?_, trivial⟩
        have ex := hok.eval hx trivial
        simp only [SV.den] at ex
        simp only [execOp, ho, ex, Instr.makeInterface, SV.den, Sem.run_bind, hu, Result.andThen_ok]
        cases hc : i.desc <;> first | exact absurd hc (hd _) | rfl
      · cases h
  · cases h
theorem gives_func (hok : OkV σ H a w ρ) {fn : Fn} {fi ca : Array Operand} (h : exFunc σ H fn fi ca = some s) : Gives cx a w ρ (.makeFunc fn fi ca) s := by
  unfold exFunc at h
  split at h
  · rename_i vs hv
    split at h
    · rename_i us hu
      obtain rfl := Option.some.inj h
      refine ⟨fun o ho => ?_, trivial⟩
      simp [execOp, ho, Instr.makeFunc, evs_eval hok hv, evs_eval hok hu, SV.den]
    · cases h
  · cases h
end
end Go.Fw
/- The computed executor: builtins, composite values, and all value operations together. -/
namespace Go.Fw
open Go.RowKit
section
variable {T : TypeId} {cx : Cx} {σ : Fm} {H : Own} {a : Act} {w : World} {ρ : Nat → Nat × Nat} {te : Te} {s : SV}
theorem list_of_toList {α : Type} {x : Array α} {l : List α} (h : x.toList = l) : x = l.toArray := by subst h; simp
theorem gives_builtin (hte : TeOk cx.P te) (hok : OkV σ H a w ρ) {b : Builtin} {args : Array Operand} {tys : Array TypeId} (h : exBuiltin te σ b args.toList tys.toList = some s) :
    Gives cx a w ρ (.call { callee := .builtin b, args := args, argTypes := tys }) s := by
  generalize hA : args.toList = A at h
  generalize hU : tys.toList = U at h
  obtain rfl := list_of_toList hA
  obtain rfl := list_of_toList hU
  unfold exBuiltin at h
  split at h
  · rename_i x t
    split at h
    · rename_i i q hi hx
      have hu := run_und w (hte _ _ hi)
      split at h
      · rename_i v hv
        obtain rfl := Option.some.inj h
        refine ⟨fun o ho => ?_, trivial⟩
        unfold lenSV at hv
        split at hv <;> first | (cases hv; done) | skip
        all_goals
          split at hv
          · rename_i hd
            obtain rfl := Option.some.inj hv
            have ex := hok.eval hx trivial
            simp only [SV.den] at ex
            simp only [hd] at hu
            simp [execOp, ho, ex, resolve, invoke, builtin, Builtin.len_, hu, goInt, SV.den]
          · cases hv
      · cases h
    · cases h
  · rename_i x y
    split at h
    · rename_i j m k n hx hy
      obtain rfl := Option.some.inj h
      refine ⟨fun o ho => ?_, trivial⟩
      have ex := hok.eval hx trivial
      have ey := hok.eval hy trivial
      simp only [SV.den] at ex ey
      simp [execOp, ho, ex, ey, resolve, invoke, builtin, Builtin.min_, Builtin.min2, SV.den]
    · cases h
  · rename_i x y
    split at h
    · rename_i j m k n hx hy
      obtain rfl := Option.some.inj h
      refine ⟨fun o ho => ?_, trivial⟩
      have ex := hok.eval hx trivial
      have ey := hok.eval hy trivial
      simp only [SV.den] at ex ey
      simp [execOp, ho, ex, ey, resolve, invoke, builtin, Builtin.max_, Builtin.max2, SV.den]
    · cases h
  · cases h
theorem fold_put (off : Nat) : ∀ (vs : List Value) (n : Nat) (cells : Array Value), (vs.zipIdx n).foldl (fun cs (c, j) => cs.setIfInBounds (off + j) c) cells = (putL cells.toList (off + n) vs).toArray := by
  intro vs
  induction vs with
  | nil => intro n cells; simp [putL]
  | cons v vs ih =>
    intro n cells
    simp only [List.zipIdx_cons, List.foldl_cons]
    rw [ih]
    simp [putL, Nat.add_assoc]
theorem fill_of {place : Nat → Option (Nat × Nat)} : ∀ {ps : List (Nat × Value)} {cells r : List Value}, fillL place cells ps = some r → Instr.fill place cells.toArray ps = some r.toArray := by
  intro ps
  induction ps with
  | nil => intro cells r h; simp only [fillL, Option.some.injEq] at h; subst h; rfl
  | cons p ps ih =>
    intro cells r h
    obtain ⟨i, v⟩ := p
    simp only [fillL] at h
    split at h
    · cases h
    · rename_i off size hp
      split at h
      · rename_i hs
        split at h
        · rename_i c hc
          obtain ⟨h1, h2⟩ := putF_spec hc
          have hsz : v.cells.size = size := by
            rw [← Nat.eq_of_beq_eq_true hs, ← cellsL_eq]; simp
          have hle : off + v.cells.size ≤ cells.length := by
            rw [← cellsL_eq] at h2; simpa using h2
          have hfold : v.cells.zipIdx.foldl (fun cs (c, j) => cs.setIfInBounds (off + j) c) cells.toArray = c.toArray := by
            rw [← Array.foldl_toList, Array.toList_zipIdx, fold_put, cellsL_eq, h1]; rfl
          simp only [Instr.fill, hp]
          rw [if_neg (by simp [hsz]; rw [← hsz]; exact hle), hfold]
          exact ih h
        · cases h
      · cases h
theorem evParts_eval (hok : OkV σ H a w ρ) : ∀ {ps : List (Nat × Operand)} {r : List (Nat × Value)}, evParts σ H ps = some r → ps.map (fun (i, x) => (i, a.eval x)) = r := by
  intro ps
  induction ps with
  | nil => intro r h; simp only [evParts, Option.some.injEq] at h; subst h; rfl
  | cons p ps ih =>
    intro r h
    obtain ⟨i, x⟩ := p
    simp only [evParts] at h
    split at h
    · rename_i q hx
      split at h
      · rename_i v hv
        split at h
        · rename_i l hl
          obtain rfl := Option.some.inj h
          have e := ih hl
          simp only [List.map_cons, hok.eval hx (real_cond hv), hok.real hv]
          rw [e]
        · cases h
      · cases h
    · cases h
theorem sizes_of (hte : TeOk cx.P te) (w : World) : ∀ {fs : List Field} {l : List (Nat × Nat)}, sizesL te (fs.map (fun f => (f.offset, f.type))) = some l → (fs.mapM (m := Sem) fun f => do pure (f.offset, ← sizeOf f.type)).run cx.P w = .ok l w := by
  intro fs
  induction fs with
  | nil => intro l h; simp only [List.map_nil, sizesL, Option.some.injEq] at h; subst h; simp
  | cons f fs ih =>
    intro l h
    simp only [List.map_cons, sizesL] at h
    split at h
    · rename_i i hi
      split at h
      · rename_i r hr
        obtain rfl := Option.some.inj h
        have hs := run_size w (hte _ _ hi)
        simp only [List.mapM_cons, Sem.run_bind, hs, Result.andThen_ok, Sem.run_pure, ih hr]
      · cases h
    · cases h
theorem gives_build (hte : TeOk cx.P te) (hok : OkV σ H a w ρ) {parts : Array (Nat × Operand)} (h : exBuild te σ H T parts = some s) : Gives cx a w ρ (.build T parts) s := by
  unfold exBuild at h
  split at h
  · rename_i i hi
    have hu := run_und w (hte _ _ hi)
    split at h
    · rename_i z hz
      have hzr := run_zero w (hte _ _ hi) hz
      split at h
      · rename_i ps hps
        have hparts : (parts.map fun (i, x) => (i, a.eval x)).toList = ps := by
          rw [Array.toList_map]; exact evParts_eval hok hps
        split at h
        · rename_i fs hd
          rw [hd] at hu
          split at h
          · rename_i pl hpl
            split at h
            · rename_i cs hcs
              obtain rfl := Option.some.inj h
              refine ⟨fun o ho => ?_, trivial⟩
              have hfl := (hte _ _ hi).flds fs hd
              rw [← hfl] at hpl
              have hm := sizes_of hte w hpl
              have hplace : (fun j => (pl.toArray)[j]?) = nthL pl := by funext j; simp [nthL_eq]
              have hfill := fill_of hcs
              have hzc : z.cells = (cellsL z).toArray := list_of_toList (cellsL_eq z)
              have hmm : (fs.mapM (m := Sem) fun f => do pure (f.offset, ← sizeOf f.type)).run cx.P w = .ok pl.toArray w := by
                rw [Array.mapM_eq_mapM_toList, Sem.run_map, hm]
                rfl
              simp only [execOp, ho, Instr.build, Sem.run_bind, hzr, hu, Result.andThen_ok, hmm, hparts, hplace, hzc, hfill]
              rfl
            · cases h
          · cases h
        · rename_i n e hd
          rw [hd] at hu
          split at h
          · rename_i ei hei
            have hse := run_size w (hte _ _ hei)
            split at h
            · rename_i cs hcs
              obtain rfl := Option.some.inj h
              refine ⟨fun o ho => ?_, trivial⟩
              have hfill := fill_of hcs
              have hzc : z.cells = (cellsL z).toArray := list_of_toList (cellsL_eq z)
              simp only [execOp, ho, Instr.build, Sem.run_bind, hzr, hu, Result.andThen_ok, hse, hparts, hzc, hfill]
              rfl
            · cases h
          · cases h
        · cases h
      · cases h
    · cases h
  · cases h
theorem gives_indexAddr (hte : TeOk cx.P te) (hok : OkV σ H a w ρ) {x y : Operand} (h : exIndexAddr te σ T x y = some s) : Gives cx a w ρ (.indexAddr T x y) s := by
  unfold exIndexAddr at h
  split at h
  · rename_i i hi
    have hu := run_und w (hte _ _ hi)
    split at h
    · rename_i e hd
      rw [hd] at hu
      split at h
      · rename_i ei hei
        have hse := run_size w (hte _ _ hei)
        split at h
        · rename_i l off len cap k j hx hy
          split at h
          · rename_i hlt
            obtain rfl := Option.some.inj h
            refine ⟨fun o ho => ?_, trivial⟩
            have hlt' : j < len := Nat.le_of_ble_eq_true hlt
            have ex := hok.eval hx trivial
            have ey := hok.eval hy trivial
            simp only [SV.den] at ex ey
            have hc : (0 : Int) ≤ (j : Int) ∧ (j : Int) < (len : Int) := by omega
            simp [execOp, ho, ex, ey, Instr.indexAt, asIntOf, hu, hse, hlt', SV.den, addr_add, Nat.add_assoc]
          · cases h
        · cases h
      · cases h
    · cases h
  · cases h
theorem exv_sound (hte : TeOk cx.P te) (hok : OkV σ H a w ρ) {op : Op} (h : exv te σ H op = some s) : Gives cx a w ρ op s := by
  unfold exv at h
  split at h
  · obtain ⟨h1, h2⟩ := evP_spec h; exact ⟨fun o ho => by simp [execOp, ho, hok.eval h1 h2], h2⟩
  · obtain ⟨h1, h2⟩ := evP_spec h; exact ⟨fun o ho => by simp [execOp, ho, hok.eval h1 h2], h2⟩
  · exact gives_load hte hok h
  · exact gives_bin hte hok h
  · exact gives_un hok h
  · exact gives_conv hte hok h
  · exact gives_field hte hok h
  · exact gives_fieldAddr hte hok h
  · exact gives_nil hok h
  · exact gives_extract hok h
  · exact gives_iface hte hok h
  · exact gives_func hok h
  · exact gives_builtin hte hok h
  · exact gives_build hte hok h
  · exact gives_indexAddr hte hok h
  · cases h
end
end Go.Fw
/- The computed executor: operations that lay or write own blocks; the run over code up to the first thing that wants a proof; and that it is sound. -/
namespace Go.Fw
open Go.RowKit

def repL : Nat → List Value → List Value
  | 0, _ => []
  | n + 1, z => z ++ repL n z
theorem repL_get (z : List Value) : ∀ (n j : Nat), j < n * z.length → (repL n z)[j]? = z[j % z.length]? := by
  intro n
  induction n with
  | zero => intro j h; simp at h
  | succ n ih =>
    intro j h
    simp only [repL]
    rcases Nat.lt_or_ge j z.length with hj | hj
    · rw [List.getElem?_append_left hj, Nat.mod_eq_of_lt hj]
    · rw [List.getElem?_append_right hj, ih (j - z.length) (by rw [Nat.succ_mul] at h; omega)]
      rw [Nat.mod_eq_sub_mod hj]
theorem repL_len (z : List Value) (n : Nat) : (repL n z).length = n * z.length := by
  induction n with
  | zero => simp [repL]
  | succ n ih => simp [repL, ih, Nat.succ_mul, Nat.add_comm]
theorem zeros_eq (z : Array Value) (n : Nat) : (Array.range (n * z.size)).map (z[· % z.size]!) = (repL n z.toList).toArray := by
  apply Array.ext_getElem?
  intro j
  rcases Nat.lt_or_ge j (n * z.size) with hj | hj
  · have hpos : 0 < z.size := by
      rcases Nat.eq_zero_or_pos z.size with h | h
      · rw [h] at hj; simp at hj
      · exact h
    have hm : j % z.size < z.size := Nat.mod_lt _ hpos
    have hr := repL_get z.toList n j (by simpa using hj)
    simp only [Array.length_toList] at hr
    simp [hj, hr, hm]
  · have h2 : (repL n z.toList).length ≤ j := by rw [repL_len]; simpa using hj
    simp [hj, List.getElem?_eq_none h2]
def Blk.with (cs : List Value) : Blk → Option Blk
  | .own T _ => some (.own T cs)
  | .bor b T _ => some (.bor b T cs)
  | .ext .. => none
def exSlice (te : Te) (σ : Fm) (H : Own) (nl : Nat) (T : TypeId) (len : Nat) (parts : Array (Nat × Operand)) : Option (SV × Own × Nat) :=
  match te T with
  | some i => match i.desc with
    | .slice e => match te e with
      | some ei => match ei.zero with
        | some z => match Nat.beq (cellsL z).length ei.size with
          | true => match Nat.ble (len * ei.size) 16777216 with
            | true => match evParts σ H parts.toList with
              | some ps => match fillL (fun j => some (j * ei.size, ei.size)) (repL len (cellsL z)) ps with
                | some cs => some (.sl nl 0 len len, (nl, .own e cs) :: H, nl + 1)
                | none => none
              | none => none
            | false => none
          | false => none
        | none => none
      | none => none
    | _ => none
  | none => none
def exStore (te : Te) (σ : Fm) (H : Own) (nl : Nat) (T : TypeId) (x y : Operand) : Option (SV × Own × Nat) :=
  match te T with
  | some i => match ev σ x with
    | some (.p l off) => match look H l with
      | some B => match ev σ y with
        | some s => match real H s with
          | some v => match Nat.beq (cellsL v).length i.size with
            | true => match allOne (cellsL v) with
              | true => match putF B.cells off (cellsL v) with
                | some cs => match B.with cs with
                  | some B' => some (.v undef, (l, B') :: H, nl)
                  | none => none
                | none => none
              | false => none
            | false => none
          | none => none
        | none => none
      | none => none
    | _ => none
  | none => none
def ex1 (te : Te) (σ : Fm) (H : Own) (nl : Nat) (op : Op) : Option (SV × Own × Nat) :=
  match op with
  | .alloc T => match te T with
    | some i => match i.zero with
      | some z => some (.p nl 0, (nl, .own T (cellsL z)) :: H, nl + 1)
      | none => none
    | none => none
  | .box T x => match ev σ x with
    | some s => match real H s with
      | some v => some (.p nl 0, (nl, .own T (cellsL v)) :: H, nl + 1)
      | none => none
    | none => none
  | .buildSlice T len parts => exSlice te σ H nl T len parts
  | .store T x y => exStore te σ H nl T x y
  | op => match exv te σ H op with
    | some s => some (s, H, nl)
    | none => none
section
variable {T : TypeId} {cx : Cx} {σ : Fm} {H H' : Own} {nl nl' : Nat} {X : Hp} {a : Act} {w : World} {ρ : Nat → Nat × Nat} {te : Te} {s : SV}
/-- The machine gives s (or nothing), in a world that fits. -/
def Gives1 (cx : Cx) (σ : Fm) (H' : Own) (nl nl' : Nat) (X : Hp) (a : Act) (w : World) (ρ : Nat → Nat × Nat) (op : Op) (s : SV) : Prop :=
  ∃ w' ρ', (∀ l, l < nl → ρ' l = ρ l) ∧ (∀ o : Oper, o.op = op → (execOp a.eval o).run cx.P w = .ok (.value (s.den ρ')) w' ∨ ((execOp a.eval o).run cx.P w = .ok .skip w' ∧ s = .v undef)) ∧ s.cond ∧ s.below nl' ∧ Ok cx σ H' nl' X a w' ρ'
theorem run_newRow {P : Program} (e : TypeId) (cs : Array Value) (w : World) : (newRow e cs).run P w = .ok ⟨w.heap.size, 0, none⟩ { w with heap := w.heap.push (.cells cs e) } := by
  simp [newRow, newObj, Sem.run]
theorem below_v (v : Value) (n : Nat) : (SV.v v).below n := trivial
theorem Ok.setBlk (hok : Ok cx σ H nl X a w ρ) {l : Nat} {B B' : Blk} {T : TypeId} {cs : List Value} (hB : look H l = some B) (hw : B.with cs = some B') (hh : w.heap[(ρ l).1]? = some (.cells B.cells.toArray T (0, 0))) :
    Ok cx σ ((l, B') :: H) nl X a (World.setBlk w (ρ l).1 (.cells cs.toArray T (0, 0))) ρ := by
  obtain ⟨hlt, hbk⟩ := hok.blk l B hB
  have hsz : (ρ l).1 < w.heap.size := lt_of_heap hh
  have hX : X (ρ l).1 = none ∧ cx.Free (ρ l).1 ∧ B.mine = true ∧ B'.mine = true ∧ (B'.ok cx X (World.setBlk w (ρ l).1 (.cells cs.toArray T (0, 0))) (ρ l)) := by
    cases B with
    | own U ds =>
      simp only [Blk.with, Option.some.injEq] at hw
      subst hw
      obtain ⟨h0, h1, h2, h3⟩ := hbk
      have : U = T := by
        have := h1.symm.trans hh
        simp only [Option.some.injEq, Obj.cells.injEq] at this
        exact this.2.1
      subst this
      exact ⟨h2, h3, rfl, rfl, h0, setBlk_heap hsz, h2, h3⟩
    | bor b U ds =>
      simp only [Blk.with, Option.some.injEq] at hw
      subst hw
      obtain ⟨h0, h1, h2, h3⟩ := hbk
      have : U = T := by
        have := h1.symm.trans hh
        simp only [Option.some.injEq, Obj.cells.injEq] at this
        exact this.2.1
      subst this
      exact ⟨h2, h3, rfl, rfl, h0, setBlk_heap hsz, h2, h3⟩
    | ext b o U ds => simp [Blk.with] at hw
  obtain ⟨hXn, hfree, hm, hm', hok'⟩ := hX
  have keep : ∀ b, b ≠ (ρ l).1 → (World.setBlk w (ρ l).1 (.cells cs.toArray T (0, 0))).heap[b]? = w.heap[b]? := fun b hb => by
    simp only [World.setBlk]; rw [Array.getElem?_setIfInBounds_ne (Ne.symm hb)]
  refine ⟨hok.size, hok.defers, hok.val, hok.lab, ?_, ?_, ?_, ?_, hok.dom⟩
  · intro l2 B2 h2
    by_cases e : l = l2
    · subst e
      rw [look_cons_self] at h2
      obtain rfl := Option.some.inj h2
      exact ⟨hlt, hok'⟩
    · rw [look_cons_ne _ _ e] at h2
      obtain ⟨h3, h4⟩ := hok.blk l2 B2 h2
      refine ⟨h3, ?_⟩
      have hne : B2.mine = true → (ρ l2).1 ≠ (ρ l).1 := fun hm2 he => e (hok.inj l l2 B B2 hB h2 hm hm2 he.symm)
      cases B2 with
      | own U ds => exact ⟨h4.1, by rw [keep _ (hne rfl)]; exact h4.2.1, h4.2.2⟩
      | bor b U ds => exact ⟨h4.1, by rw [keep _ (hne rfl)]; exact h4.2.1, h4.2.2⟩
      | ext b o U ds => exact h4
  · intro l1 l2 B1 B2 h1 h2 hm1 hm2 he
    have get : ∀ l3 B3, look ((l, B') :: H) l3 = some B3 → B3.mine = true → ∃ B4, look H l3 = some B4 ∧ B4.mine = true := fun l3 B3 h3 hm3 => by
      by_cases e : l = l3
      · subst e; exact ⟨B, hB, hm⟩
      · rw [look_cons_ne _ _ e] at h3; exact ⟨B3, h3, hm3⟩
    obtain ⟨C1, g1, k1⟩ := get l1 B1 h1 hm1
    obtain ⟨C2, g2, k2⟩ := get l2 B2 h2 hm2
    exact hok.inj l1 l2 C1 C2 g1 g2 k1 k2 he
  · intro b o hb
    rw [keep b (fun e => by rw [e, hXn] at hb; cases hb)]
    exact hok.sub b o hb
  · refine ⟨hok.ev.os, hok.ev.tape, hok.ev.output, hok.ev.drawn, ?_, ?_⟩
    · have := hok.ev.size; simpa [World.setBlk] using this
    · intro b o hb hx
      rw [keep b (fun e => by
        subst e
        rcases hfree with h | h
        · exact h hx
        · have := lt_of_heap hb; omega)]
      exact hok.ev.keep b o hb hx
theorem Ok.mine_heap (hok : Ok cx σ H nl X a w ρ) {l : Nat} {B B' : Blk} {cs : List Value} (hB : look H l = some B) (hw : B.with cs = some B') : (ρ l).2 = 0 ∧ ∃ T, w.heap[(ρ l).1]? = some (.cells B.cells.toArray T (0, 0)) := by
  have hbk := (hok.blk l B hB).2
  cases B with
  | own U ds => exact ⟨hbk.1, U, hbk.2.1⟩
  | bor b U ds => exact ⟨by rw [hbk.1], U, hbk.2.1⟩
  | ext b o U ds => simp [Blk.with] at hw
theorem exv_below (hok : Ok cx σ H nl X a w ρ) {op : Op} (h : exv te σ H op = some s) : s.below nl := by
  unfold exv at h
  split at h
  · exact hok.below (evP_spec h).1
  · exact hok.below (evP_spec h).1
  · unfold exLoad at h
    repeat' (split at h)
    all_goals first | (cases h; done) | (obtain rfl := Option.some.inj h; trivial)
  · unfold exBin at h
    repeat' (split at h)
    all_goals first | (cases h; done) | (obtain rfl := Option.some.inj h; trivial)
  · unfold exUn at h
    repeat' (split at h)
    all_goals first | (cases h; done) | (obtain rfl := Option.some.inj h; trivial)
  · unfold exConv at h
    repeat' (split at h)
    all_goals first | (cases h; done) | (obtain rfl := Option.some.inj h; trivial)
  · unfold exField at h
    repeat' (split at h)
    all_goals first | (cases h; done) | (obtain rfl := Option.some.inj h; trivial)
  · unfold exFieldAddr at h
    repeat' (split at h)
    all_goals first | (cases h; done) | (obtain rfl := Option.some.inj h; first | trivial | (rename_i hx; have hb := hok.below hx; exact hb))
  · unfold exNil at h
    repeat' (split at h)
    all_goals first | (cases h; done) | (obtain rfl := Option.some.inj h; first | trivial | (rename_i hx; exact hok.below hx))
  · unfold exExtract at h
    repeat' (split at h)
    all_goals first | (cases h; done) | (obtain rfl := Option.some.inj h; trivial)
  · unfold exIface at h
    repeat' (split at h)
    all_goals first | (cases h; done) | (obtain rfl := Option.some.inj h; trivial)
  · unfold exFunc at h
    repeat' (split at h)
    all_goals first | (cases h; done) | (obtain rfl := Option.some.inj h; trivial)
  · unfold exBuiltin at h
    repeat' (split at h)
    all_goals first | (cases h; done) | (obtain rfl := Option.some.inj h; trivial)
  · unfold exBuild at h
    repeat' (split at h)
    all_goals first | (cases h; done) | (obtain rfl := Option.some.inj h; trivial)
  · unfold exIndexAddr at h
    repeat' (split at h)
    all_goals first | (cases h; done) | (obtain rfl := Option.some.inj h; first | (rename_i hx _; have hb := hok.below hx; exact hb) | (rename_i hx _ _ _; have hb := hok.below hx; exact hb))
  · cases h
theorem ex1_sound (hte : TeOk cx.P te) (hok : Ok cx σ H nl X a w ρ) {op : Op} (h : ex1 te σ H nl op = some (s, H', nl')) : Gives1 cx σ H' nl nl' X a w ρ op s := by
  unfold ex1 at h
  split at h
  · rename_i T
    split at h
    · rename_i i hi
      split at h
      · rename_i z hz
        simp only [Option.some.injEq, Prod.mk.injEq] at h
        obtain ⟨rfl, rfl, rfl⟩ := h
        have hzr := run_zero w (hte _ _ hi) hz
        refine ⟨_, _, fun l hl => if_neg (Nat.ne_of_lt hl), fun o ho => .inl ?_, trivial, Nat.lt_succ_self _, hok.alloc T (cellsL z)⟩
        have hzc : z.cells = (cellsL z).toArray := list_of_toList (cellsL_eq z)
        simp only [execOp, ho, Instr.alloc, newVar, Sem.run_bind, hzr, Result.andThen_ok, run_newRow, hzc, Sem.run_pure, SV.den, if_pos]
      · cases h
    · cases h
  · rename_i T x
    split at h
    · rename_i q hx
      split at h
      · rename_i v hv
        simp only [Option.some.injEq, Prod.mk.injEq] at h
        obtain ⟨rfl, rfl, rfl⟩ := h
        refine ⟨_, _, fun l hl => if_neg (Nat.ne_of_lt hl), fun o ho => .inl ?_, trivial, Nat.lt_succ_self _, hok.alloc T (cellsL v)⟩
        have ex : a.eval x = v := (hok.eval hx (real_cond hv)).trans (hok.v.real hv)
        have hzc : v.cells = (cellsL v).toArray := list_of_toList (cellsL_eq v)
        simp only [execOp, ho, ex, Instr.box, newVar, Sem.run_bind, run_newRow, hzc, Result.andThen_ok, Sem.run_pure, SV.den, if_pos]
      · cases h
    · cases h
  · rename_i T len parts
    unfold exSlice at h
    split at h
    · rename_i i hi
      have hu := run_und w (hte _ _ hi)
      split at h
      · rename_i e hd
        rw [hd] at hu
        split at h
        · rename_i ei hei
          have hse := run_size w (hte _ _ hei)
          split at h
          · rename_i z hz
            have hzr := run_zero w (hte _ _ hei) hz
            split at h
            · rename_i hlen
              have hlen' := Nat.eq_of_beq_eq_true hlen
              split at h
              · rename_i hbig
                have hbig' : ¬ len * ei.size > 2 ^ 24 := by have := Nat.le_of_ble_eq_true hbig; omega
                split at h
                · rename_i ps hps
                  split at h
                  · rename_i cs hcs
                    simp only [Option.some.injEq, Prod.mk.injEq] at h
                    obtain ⟨rfl, rfl, rfl⟩ := h
                    refine ⟨_, _, fun l hl => if_neg (Nat.ne_of_lt hl), fun o ho => .inl ?_, trivial, Nat.lt_succ_self _, hok.alloc e cs⟩
                    have hparts : (parts.map fun (i, x) => (i, a.eval x)).toList = ps := by
                      rw [Array.toList_map]; exact evParts_eval hok.v hps
                    have hfill := fill_of hcs
                    have hzs : z.cells.size = ei.size := by rw [← hlen', ← cellsL_eq]; simp
                    have hzero : (Array.range (len * ei.size)).map (z.cells[· % z.cells.size]!) = (repL len (cellsL z)).toArray := by
                      rw [← hzs, zeros_eq, cellsL_eq]
                    simp only [execOp, ho, Instr.buildSlice, Sem.run_bind, hu, hse, Result.andThen_ok, if_neg hbig', hparts]
                    by_cases h0 : len * ei.size = 0
                    · have hrep : repL len (cellsL z) = [] := by
                        apply List.eq_nil_of_length_eq_zero; rw [repL_len, hlen']; exact h0
                      rw [hrep] at hfill
                      simp only [if_pos h0, Sem.run_bind, Sem.run_pure, Result.andThen_ok]
                      have h0' : (Array.range (len * ei.size)).map ((#[] : Array Value)[· % (#[] : Array Value).size]!) = ([] : List Value).toArray := by simp [h0]
                      rw [h0', hfill]
                      simp [run_newRow, SV.den]
                    · simp only [if_neg h0, Sem.run_bind, hzr, Result.andThen_ok, Sem.run_pure, hzero, hfill]
                      simp [run_newRow, SV.den]
                  · cases h
                · cases h
              · cases h
            · cases h
          · cases h
        · cases h
      · cases h
    · cases h
  · rename_i T x y
    unfold exStore at h
    split at h
    · rename_i i hi
      have hs := run_size w (hte _ _ hi)
      split at h
      · rename_i l off hx
        split at h
        · rename_i B hB
          split at h
          · rename_i q hy
            split at h
            · rename_i v hv
              split at h
              · rename_i hlen
                split at h
                · rename_i hone
                  split at h
                  · rename_i cs hcs
                    split at h
                    · rename_i B' hB'
                      simp only [Option.some.injEq, Prod.mk.injEq] at h
                      obtain ⟨rfl, rfl, rfl⟩ := h
                      obtain ⟨hz0, U, hh⟩ := hok.mine_heap hB hB'
                      refine ⟨_, ρ, fun _ _ => rfl, fun o ho => .inr ⟨?_, rfl⟩, trivial, trivial, hok.setBlk hB hB' hh⟩
                      have ex := hok.eval hx trivial
                      simp only [SV.den, hz0, Nat.zero_add] at ex
                      have ey : a.eval y = v := (hok.eval hy (real_cond hv)).trans (hok.v.real hv)
                      have hsz : v.cells.size = i.size := by rw [← Nat.eq_of_beq_eq_true hlen, ← cellsL_eq]; simp
                      obtain ⟨hp1, hp2⟩ := putF_spec hcs
                      have hst := run_storeCells_blk (P := cx.P) (o := off) (cellsL v) 0 w B.cells hh (by simpa using hp2) (allOne_spec hone)
                      simp only [Nat.add_zero, ← hp1] at hst
                      simp only [execOp, ho, ex, ey, Instr.storeAt, Instr.sureAddr, storeVar, Sem.run_bind, Sem.run_pure, Result.andThen_ok, hs]
                      simp only [hsz, ne_eq, not_true_eq_false, if_false, Result.andThen_ok, cellsL_eq, hst]
                    · cases h
                  · cases h
                · cases h
              · cases h
            · cases h
          · cases h
        · cases h
      · cases h
    · cases h
  · split at h
    · rename_i q hq
      simp only [Option.some.injEq, Prod.mk.injEq] at h
      obtain ⟨rfl, rfl, rfl⟩ := h
      obtain ⟨h1, h2⟩ := exv_sound hte hok.v hq
      exact ⟨w, ρ, fun _ _ => rfl, fun o ho => .inl (h1 o ho), h2, exv_below hok hq, hok⟩
    · cases h
end
end Go.Fw
/- The computed run, that it is sound, and the rules of the walk. -/
namespace Go.Fw
open Go.RowKit

structure St where
  k : List It
  σ : Fm
  H : Own
  nl : Nat
  ob : Prop
def gslot (ops : Array Oper) (j : Nat) : Option Nat :=
  match nthL ops.toList j with
  | some o => o.dst
  | none => none
def eqB : Bool → Bool → Bool
  | true, true => true
  | false, false => true
  | _, _ => false
theorem eqB_spec {a b : Bool} (h : eqB a b = true) : a = b := by cases a <;> cases b <;> first | rfl | cases h
def grp (te : Te) (n : Nat) (H : Own) (j : Nat) (want c : Bool) : List Oper → Fm → Fm → Option (List Oper × Fm)
  | [], σ, _ => some ([], σ)
  | o :: rest, σ, τ => match o.guard with
    | some (j', want') => match Nat.beq j j' with
      | true => match eqB want want' with
        | true => match exv te τ H o.op with
          | some (.v x) => match o.dst with
            | some d => match Nat.blt d n with
              | true => grp te n H j want c rest ((d, .g c want x) :: σ) ((d, .v x) :: τ)
              | false => some (o :: rest, σ)
            | none => some (o :: rest, σ)
          | some (.p l off) => match look H l with
            | some _ => match o.dst with
              | some d => match Nat.blt d n with
                | true => grp te n H j want c rest ((d, .gp c want l off) :: σ) ((d, .p l off) :: τ)
                | false => some (o :: rest, σ)
              | none => some (o :: rest, σ)
            | none => some (o :: rest, σ)
          | _ => some (o :: rest, σ)
        | false => some (o :: rest, σ)
      | false => some (o :: rest, σ)
    | none => some (o :: rest, σ)
def exPick (σ : Fm) (c x y : Operand) : Option (SV × Prop) :=
  match ev σ c with
  | some (.v (.bool b)) => match ev σ x, ev σ y with
    | some (.v (.bool true)), some (.g b' false (.bool z)) => some (.v (.bool (b || z)), b' = b)
    | some (.g b' true (.bool z)), some (.v (.bool false)) => some (.v (.bool (b && z)), b' = b)
    | _, _ => none
  | _ => none
/-- No operation of a list writes the slot t. -/
def noDst (t : Nat) : List Oper → Bool
  | [] => true
  | o :: l => match o.dst with
    | some d => match Nat.beq d t with
      | true => false
      | false => noDst t l
    | none => noDst t l
/-- The run: it stops at the first thing that it does not know. -/
def go (te : Te) (n : Nat) : Nat → List It → Fm → Own → Nat → Prop → St
  | 0, k, σ, H, nl, ob => ⟨k, σ, H, nl, ob⟩
  | f + 1, k, σ, H, nl, ob => match k with
    | .code (.seq x y) :: k' => go te n f (.code x :: .code y :: k') σ H nl ob
    | .code .skip :: k' => go te n f k' σ H nl ob
    | .code (.label _) :: k' => go te n f k' σ H nl ob
    | .code (.block id c) :: k' => go te n f (.code c :: .blk id :: k') σ H nl ob
    | .code (.exit id) :: k' => match exitIn id k' with
      | some k2 => go te n f k2 σ H nl ob
      | none => ⟨.code (.exit id) :: k', σ, H, nl, ob⟩
    | .code (.region _ ops false) :: k' => go te n f (.rg ops ops.toList :: k') σ H nl ob
    | .rg _ [] :: k' => go te n f k' σ H nl ob
    | .blk _ :: k' => go te n f k' σ H nl ob
    | .rg ops (o :: rest) :: k' => match o.guard with
      | none => match o.op with
        | .pick c x y => match exPick σ c x y with
          | some (s, p) => match putS n o.dst s σ with
            | some σ' => go te n f (.rg ops rest :: k') σ' H nl (p ∧ ob)
            | none => ⟨.rg ops (o :: rest) :: k', σ, H, nl, ob⟩
          | none => ⟨.rg ops (o :: rest) :: k', σ, H, nl, ob⟩
        | op => match ex1 te σ H nl op with
          | some (s, H', nl') => match putS n o.dst s σ with
            | some σ' => go te n f (.rg ops rest :: k') σ' H' nl' ob
            | none => ⟨.rg ops (o :: rest) :: k', σ, H, nl, ob⟩
          | none => ⟨.rg ops (o :: rest) :: k', σ, H, nl, ob⟩
      | some (j, want) => match gslot ops j with
        | some t => match look σ t with
          | some (.v (.bool c)) => match noDst t (o :: rest) with
            | true => match grp te n H j want c (o :: rest) σ σ with
              | some (rest', σ') => match Nat.beq rest'.length (rest.length + 1) with
                | true => ⟨.rg ops (o :: rest) :: k', σ, H, nl, ob⟩
                | false => go te n f (.rg ops rest' :: k') σ' H nl ob
              | none => ⟨.rg ops (o :: rest) :: k', σ, H, nl, ob⟩
            | false => ⟨.rg ops (o :: rest) :: k', σ, H, nl, ob⟩
          | _ => ⟨.rg ops (o :: rest) :: k', σ, H, nl, ob⟩
        | none => ⟨.rg ops (o :: rest) :: k', σ, H, nl, ob⟩
    | k => ⟨k, σ, H, nl, ob⟩
section
variable {cx : Cx} {k k' : List It} {σ σ' : Fm} {H H' : Own} {nl nl' : Nat} {X : Hp} {a : Act} {w : World} {ρ : Nat → Nat × Nat} {te : Te} {s : SV} {ops : Array Oper} {o : Oper} {rest : List Oper}
theorem run_op {P : Program} {B : Exit → Act → World → Prop} (hg : o.guard = none) (h : o.wp P a w (run P B (.rg ops rest :: k)) (post B (kont P B k))) : run P B (.rg ops (o :: rest) :: k) a w :=
  wpList_plain hg fun _ hK => Oper.wp_mono hK h
theorem run_op_step {P : Program} {B : Exit → Act → World → Prop} (hw : Region.wanted o (yielded ops a.tmps) = true) (h : o.wp P a w (run P B (.rg ops rest :: k)) (post B (kont P B k))) : run P B (.rg ops (o :: rest) :: k) a w := by
  show wpList P ops _ (o :: rest) a w
  unfold wpList
  rw [if_pos hw]
  exact .inl h
theorem run_op_skip {P : Program} {B : Exit → Act → World → Prop} (hw : Region.wanted o (yielded ops a.tmps) = false) (h : run P B (.rg ops rest :: k) (a.put o.dst undef) w) : run P B (.rg ops (o :: rest) :: k) a w := by
  show wpList P ops _ (o :: rest) a w
  unfold wpList
  rw [if_neg (by simp [hw])]
  exact h
theorem W_ex1 (hte : TeOk cx.P te) (hg : o.guard = none) (h : ex1 te σ H nl o.op = some (s, H', nl')) (hp : putS cx.n o.dst s σ = some σ') (hk : W cx (.rg ops rest :: k) σ' H' nl' X) : W cx (.rg ops (o :: rest) :: k) σ H nl X := by
  intro a w ρ hok
  obtain ⟨w', ρ', _, hr, hc, hb, hok'⟩ := ex1_sound hte hok h
  refine run_op hg ?_
  have hput := hok'.put hp hb
  unfold Oper.wp
  rcases hr o rfl with h1 | ⟨h1, h2⟩
  · rw [h1]; exact hk _ _ _ hput
  · subst h2; rw [h1]; exact hk _ _ _ hput
theorem slot_bool (hok : Ok cx σ H nl X a w ρ) {j t : Nat} {c : Bool} (hj : gslot ops j = some t) (ht : look σ t = some (.v (.bool c))) : yielded ops a.tmps j = some c := by
  unfold gslot at hj
  split at hj
  · rename_i p hp
    rw [nthL_eq] at hp
    have h1 : ops[j]? = some p := by simpa using hp
    have h2 := hok.val t _ ht trivial
    simp [yielded, h1, hj, h2, SV.den]
  · cases hj
/-- Of a frame in which a guard's slot holds c: a guarded group of value operations. -/
theorem grp_sound (hte : TeOk cx.P te) {j t : Nat} {want c : Bool} (hj : gslot ops j = some t) : ∀ (l : List Oper) (σ τ : Fm) (l' : List Oper) (σ' : Fm), grp te cx.n H j want c l σ τ = some (l', σ') →
    (∀ a w ρ, Ok cx σ' H nl X a w ρ → run cx.P cx.B (.rg ops l' :: k) a w) →
    ∀ a w ρ, Ok cx σ H nl X a w ρ → (c = want → Ok cx τ H nl X a w ρ) → yielded ops a.tmps j = some c → (∀ d, (∃ o ∈ l, o.dst = some d) → d ≠ t) → run cx.P cx.B (.rg ops l :: k) a w := by
  intro l
  induction l with
  | nil =>
    intro σ τ l' σ' h hk a w ρ hok _ _ _
    simp only [grp, Option.some.injEq, Prod.mk.injEq] at h
    obtain ⟨rfl, rfl⟩ := h
    exact hk a w ρ hok
  | cons o l ih =>
    intro σ τ l' σ' h hk a w ρ hok hτ hy hd
    have stop : some (o :: l, σ) = some (l', σ') → run cx.P cx.B (.rg ops (o :: l) :: k) a w := fun e => by
      simp only [Option.some.injEq, Prod.mk.injEq] at e
      obtain ⟨rfl, rfl⟩ := e
      exact hk a w ρ hok
    simp only [grp] at h
    split at h
    · rename_i j' want' hg
      split at h
      · rename_i hjj
        obtain rfl := Nat.eq_of_beq_eq_true hjj
        split at h
        · rename_i hww
          obtain rfl := eqB_spec hww
          split at h
          · rename_i x hx
            split at h
            · rename_i d hdst
              split at h
              · rename_i hlt
                have hdt : d ≠ t := hd d ⟨o, by simp, hdst⟩
                have hput : ∀ (v : SV) (τ : Fm), putS cx.n o.dst v τ = some ((d, v) :: τ) := fun v τ => by simp only [putS, hdst, hlt]
                have hyk : ∀ v, yielded ops (a.put o.dst v).tmps j = some c := fun v => by
                  unfold yielded at hy ⊢
                  unfold gslot at hj
                  split at hj
                  · rename_i p hp
                    rw [nthL_eq] at hp
                    have h1 : ops[j]? = some p := by simpa using hp
                    simp only [h1, Option.bind_some, hj] at hy ⊢
                    simp only [hdst, Act.put]
                    rw [Array.getElem?_setIfInBounds_ne hdt]
                    exact hy
                  · cases hj
                by_cases hcw : c = want
                · subst hcw
                  have hτ' := hτ rfl
                  obtain ⟨hrun, _⟩ := exv_sound hte hτ'.v hx
                  refine run_op_step (by simp [Region.wanted, hg, hy]) ?_
                  unfold Oper.wp
                  rw [hrun o rfl]
                  refine ih _ _ _ _ h hk _ _ ρ ?_ (fun _ => ?_) (hyk _) (fun d' ⟨o', ho', hd'⟩ => hd d' ⟨o', by simp [ho'], hd'⟩)
                  · have := hok.put (v := .g c c x) (hput _ _) trivial
                    exact this
                  · have := hτ'.put (v := .v x) (hput _ _) trivial
                    exact this
                · refine run_op_skip (by simp [Region.wanted, hg, hy, hcw]) ?_
                  refine ih _ _ _ _ h hk _ _ ρ ?_ (fun e => absurd e hcw) (hyk _) (fun d' ⟨o', ho', hd'⟩ => hd d' ⟨o', by simp [ho'], hd'⟩)
                  have := hok.put (v := .v undef) (hput _ _) trivial
                  refine ⟨this.size, this.defers, ?_, ?_, this.blk, this.inj, this.sub, this.ev, this.dom⟩
                  · intro u q hq hc
                    by_cases e : d = u
                    · subst e
                      rw [look_cons_self] at hq
                      obtain rfl := Option.some.inj hq
                      exact absurd hc hcw
                    · rw [look_cons_ne _ _ e] at hq
                      exact this.val u q (by rw [look_cons_ne _ _ e]; exact hq) hc
                  · intro u q hq
                    by_cases e : d = u
                    · subst e
                      rw [look_cons_self] at hq
                      obtain rfl := Option.some.inj hq
                      trivial
                    · rw [look_cons_ne _ _ e] at hq
                      exact this.lab u q (by rw [look_cons_ne _ _ e]; exact hq)
              · exact stop h
            · exact stop h
          · rename_i lb off hx
            split at h
            · rename_i Bx hBx
              split at h
              · rename_i d hdst
                split at h
                · rename_i hlt
                  have hbl := (hok.blk _ _ hBx).1
                  have hdt : d ≠ t := hd d ⟨o, by simp, hdst⟩
                  have hput : ∀ (v : SV) (τ : Fm), putS cx.n o.dst v τ = some ((d, v) :: τ) := fun v τ => by simp only [putS, hdst, hlt]
                  have hyk : ∀ v, yielded ops (a.put o.dst v).tmps j = some c := fun v => by
                    unfold yielded at hy ⊢
                    unfold gslot at hj
                    split at hj
                    · rename_i p hp
                      rw [nthL_eq] at hp
                      have h1 : ops[j]? = some p := by simpa using hp
                      simp only [h1, Option.bind_some, hj] at hy ⊢
                      simp only [hdst, Act.put]
                      rw [Array.getElem?_setIfInBounds_ne hdt]
                      exact hy
                    · cases hj
                  by_cases hcw : c = want
                  · subst hcw
                    have hτ' := hτ rfl
                    obtain ⟨hrun, _⟩ := exv_sound hte hτ'.v hx
                    have hbel := exv_below hτ' hx
                    refine run_op_step (by simp [Region.wanted, hg, hy]) ?_
                    unfold Oper.wp
                    rw [hrun o rfl]
                    refine ih _ _ _ _ h hk _ _ ρ ?_ (fun _ => ?_) (hyk _) (fun d' ⟨o', ho', hd'⟩ => hd d' ⟨o', by simp [ho'], hd'⟩)
                    · have := hok.put (v := .gp c c lb off) (hput _ _) hbel
                      exact this
                    · have := hτ'.put (v := .p lb off) (hput _ _) hbel
                      exact this
                  · refine run_op_skip (by simp [Region.wanted, hg, hy, hcw]) ?_
                    refine ih _ _ _ _ h hk _ _ ρ ?_ (fun e => absurd e hcw) (hyk _) (fun d' ⟨o', ho', hd'⟩ => hd d' ⟨o', by simp [ho'], hd'⟩)
                    have := hok.put (v := .v undef) (hput _ _) trivial
                    refine ⟨this.size, this.defers, ?_, ?_, this.blk, this.inj, this.sub, this.ev, this.dom⟩
                    · intro u q hq hc
                      by_cases e : d = u
                      · subst e
                        rw [look_cons_self] at hq
                        obtain rfl := Option.some.inj hq
                        exact absurd hc hcw
                      · rw [look_cons_ne _ _ e] at hq
                        exact this.val u q (by rw [look_cons_ne _ _ e]; exact hq) hc
                    · intro u q hq
                      by_cases e : d = u
                      · subst e
                        rw [look_cons_self] at hq
                        obtain rfl := Option.some.inj hq
                        exact hbl
                      · rw [look_cons_ne _ _ e] at hq
                        exact this.lab u q (by rw [look_cons_ne _ _ e]; exact hq)
                · exact stop h
              · exact stop h
            · exact stop h
          · exact stop h
        · exact stop h
      · exact stop h
    · exact stop h
theorem noDst_spec {t : Nat} : ∀ {l : List Oper}, noDst t l = true → ∀ d, (∃ o ∈ l, o.dst = some d) → d ≠ t := by
  intro l
  induction l with
  | nil => rintro _ d ⟨o, ho, _⟩; cases ho
  | cons x l ih =>
    rintro h d ⟨o, ho, hd⟩ rfl
    simp only [noDst] at h
    split at h
    · rename_i e he
      split at h
      · cases h
      · rename_i hb
        rcases List.mem_cons.1 ho with rfl | ho
        · rw [hd] at he
          obtain rfl := Option.some.inj he
          simp at hb
        · exact ih h d ⟨o, ho, hd⟩ rfl
    · rename_i he
      rcases List.mem_cons.1 ho with rfl | ho
      · rw [hd] at he; cases he
      · exact ih h d ⟨o, ho, hd⟩ rfl
theorem exPick_sound (hok : Ok cx σ H nl X a w ρ) {c x y : Operand} {p : Prop} (h : exPick σ c x y = some (s, p)) (hp : p) (ho : o.op = .pick c x y) : (execOp a.eval o).run cx.P w = .ok (.value (s.den ρ)) w ∧ s.cond ∧ s.below nl := by
  unfold exPick at h
  split at h
  · rename_i b hc
    have ec := hok.eval hc trivial
    simp only [SV.den] at ec
    split at h
    · rename_i b' z hx hy
      simp only [Option.some.injEq, Prod.mk.injEq] at h
      obtain ⟨rfl, rfl⟩ := h
      have ex := hok.eval hx trivial
      simp only [SV.den] at ex
      refine ⟨?_, trivial, trivial⟩
      cases b with
      | true => simp [execOp, ho, ec, ex, asBool, SV.den]
      | false =>
        have ey := hok.eval hy hp
        simp only [SV.den] at ey
        simp [execOp, ho, ec, ey, asBool, SV.den]
    · rename_i b' z hx hy
      simp only [Option.some.injEq, Prod.mk.injEq] at h
      obtain ⟨rfl, rfl⟩ := h
      have ey := hok.eval hy trivial
      simp only [SV.den] at ey
      refine ⟨?_, trivial, trivial⟩
      cases b with
      | false => simp [execOp, ho, ec, ey, asBool, SV.den]
      | true =>
        have ex := hok.eval hx hp
        simp only [SV.den] at ex
        simp [execOp, ho, ec, ex, asBool, SV.den]
    · cases h
  · cases h
theorem go_sound (hte : TeOk cx.P te) : ∀ (f : Nat) (k : List It) (σ : Fm) (H : Own) (nl : Nat) (ob : Prop) (st : St), go te cx.n f k σ H nl ob = st → st.ob → W cx st.k st.σ st.H st.nl X → W cx k σ H nl X ∧ ob := by
  intro f
  induction f with
  | zero => intro k σ H nl ob st h hob hk; subst h; exact ⟨hk, hob⟩
  | succ f ih =>
    intro k σ H nl ob st h hob hk
    unfold go at h
    split at h
    · obtain ⟨h1, h2⟩ := ih _ _ _ _ _ _ h hob hk
      exact ⟨fun a w ρ hok => run_seq (h1 a w ρ hok), h2⟩
    · obtain ⟨h1, h2⟩ := ih _ _ _ _ _ _ h hob hk
      exact ⟨fun a w ρ hok => run_skip (h1 a w ρ hok), h2⟩
    · obtain ⟨h1, h2⟩ := ih _ _ _ _ _ _ h hob hk
      exact ⟨fun a w ρ hok => run_label (h1 a w ρ hok), h2⟩
    · obtain ⟨h1, h2⟩ := ih _ _ _ _ _ _ h hob hk
      exact ⟨fun a w ρ hok => run_block (h1 a w ρ hok), h2⟩
    · split at h
      · rename_i he
        obtain ⟨h1, h2⟩ := ih _ _ _ _ _ _ h hob hk
        exact ⟨fun a w ρ hok => run_exit he (h1 a w ρ hok), h2⟩
      · subst h; exact ⟨hk, hob⟩
    · obtain ⟨h1, h2⟩ := ih _ _ _ _ _ _ h hob hk
      exact ⟨fun a w ρ hok => run_region (h1 a w ρ hok), h2⟩
    · obtain ⟨h1, h2⟩ := ih _ _ _ _ _ _ h hob hk
      exact ⟨fun a w ρ hok => run_rg_nil (h1 a w ρ hok), h2⟩
    · obtain ⟨h1, h2⟩ := ih _ _ _ _ _ _ h hob hk
      exact ⟨fun a w ρ hok => run_blk (h1 a w ρ hok), h2⟩
    · split at h
      · rename_i hg
        split at h
        · rename_i c x y hop
          split at h
          · rename_i s p hs
            split at h
            · rename_i σ' hp
              obtain ⟨h1, h2, h3⟩ := ih _ _ _ _ _ _ h hob hk
              refine ⟨fun a w ρ hok => ?_, h3⟩
              obtain ⟨e1, e2, e3⟩ := exPick_sound hok hs h2 hop
              refine run_op hg ?_
              unfold Oper.wp
              rw [e1]
              exact h1 _ _ _ (hok.put hp e3)
            · subst h; exact ⟨hk, hob⟩
          · subst h; exact ⟨hk, hob⟩
        · split at h
          · rename_i s H' nl' hs
            split at h
            · rename_i σ' hp
              obtain ⟨h1, h2⟩ := ih _ _ _ _ _ _ h hob hk
              exact ⟨W_ex1 hte hg hs hp h1, h2⟩
            · subst h; exact ⟨hk, hob⟩
          · subst h; exact ⟨hk, hob⟩
      · rename_i j want hg
        split at h
        · rename_i t hj
          split at h
          · rename_i c ht
            split at h
            · rename_i hnd
              split at h
              · rename_i hgr
                split at h
                · subst h; exact ⟨hk, hob⟩
                · obtain ⟨h1, h2⟩ := ih _ _ _ _ _ _ h hob hk
                  exact ⟨fun a w ρ hok => grp_sound hte hj _ _ _ _ _ hgr h1 a w ρ hok (fun _ => hok) (slot_bool hok hj ht) (noDst_spec hnd), h2⟩
              · subst h; exact ⟨hk, hob⟩
            · subst h; exact ⟨hk, hob⟩
          · subst h; exact ⟨hk, hob⟩
        · subst h; exact ⟨hk, hob⟩
    · subst h; exact ⟨hk, hob⟩
/-- ONE RUN of the executor: 'refine sx hte rfl ?_'. -/
theorem sx (hte : TeOk cx.P te) {ob : Prop} (h : go te cx.n 3000 k σ H nl True = ⟨k', σ', H', nl', ob⟩) (hk : W cx k' σ' H' nl' X) (hob : ob := by trivial) : W cx k σ H nl X :=
  (go_sound hte _ _ _ _ _ _ _ h hob hk).1
end
end Go.Fw
/- The rules of the walk: entry, tests, calls, returns, loops; blocks that are handed over. -/
namespace Go.Fw
open Go.RowKit

def s0 : Nat → List Value → Fm
  | _, [] => []
  | i, v :: vs => (i, .v v) :: s0 (i + 1) vs
theorem look_s0 : ∀ (vs : List Value) (i t : Nat) (s : SV), look (s0 i vs) t = some s → ∃ v, s = .v v ∧ i ≤ t ∧ vs[t - i]? = some v := by
  intro vs
  induction vs with
  | nil => intro i t s h; cases h
  | cons v vs ih =>
    intro i t s h
    by_cases e : i = t
    · subst e
      simp only [s0] at h
      rw [look_cons_self] at h
      obtain rfl := Option.some.inj h
      exact ⟨v, rfl, Nat.le_refl _, by simp⟩
    · simp only [s0] at h
      rw [look_cons_ne _ _ e] at h
      obtain ⟨u, h1, h2, h3⟩ := ih _ _ _ h
      exact ⟨u, h1, by omega, by rw [show t - i = (t - (i + 1)) + 1 by omega]; simpa using h3⟩
theorem enter {P : Program} {f : FuncId} {fn : Func} {c : Code} {args : List Value} {X : Hp} {Q : Ending → Hp → Prop} (hf : P.funcs[f]? = some fn) (hb : fn.body = some c) (hname : (fn.name == "runtime.NumGoroutine") = false)
    (hsz : Nat.ble args.length fn.ntmps = true) (h : ∀ w0, W ⟨P, fn, fn.ntmps, w0, X, Q⟩ [.code c] (s0 0 args) [] 0 X) : Trip P f args.toArray X Q := by
  refine ⟨enters_of hf hname hb, fun w hw => calls_of_wp hf hb ?_⟩
  have hsz' := Nat.le_of_ble_eq_true hsz
  have hok : Ok ⟨P, fn, fn.ntmps, w, X, Q⟩ (s0 0 args) [] 0 X { tmps := args.toArray ++ Array.replicate (fn.ntmps - args.toArray.size) undef, defers := [] } w (fun _ => (0, 0)) := by
    refine ⟨(by simp; omega), rfl, ?_, ?_, (fun l B e => by cases e), (fun l l' B B' e => by cases e), hw, Ev.refl _ _, Dom.refl _ _⟩
    · intro t s ht _
      obtain ⟨v, rfl, _, h3⟩ := look_s0 _ _ _ _ ht
      simp only [SV.den]
      simp only [Nat.sub_zero] at h3
      have hlt : t < args.length := by
        rcases Nat.lt_or_ge t args.length with h' | h'
        · exact h'
        · simp [List.getElem?_eq_none h'] at h3
      rw [Array.getElem?_append_left (by simpa using hlt)]
      simpa using h3
    · intro t s ht
      obtain ⟨v, rfl, _⟩ := look_s0 _ _ _ _ ht
      trivial
  have e : ∀ B : Exit → Act → World → Prop, post B (kont P B []) = B := fun B => by funext e; cases e <;> rfl
  have hr := h w _ _ _ hok
  show Code.wp P c (Cx.B ⟨P, fn, fn.ntmps, w, X, Q⟩) _ w
  rw [← e (Cx.B ⟨P, fn, fn.ntmps, w, X, Q⟩)]
  exact hr
section
variable {cx : Cx} {k k' : List It} {σ σ' : Fm} {H H' : Own} {nl nl' : Nat} {X : Hp} {a : Act} {w : World} {ρ : Nat → Nat × Nat} {te : Te} {s : SV} {ops : Array Oper} {o : Oper} {rest : List Oper}
theorem W_cond {c : Operand} {x y : Code} {b : Bool} (hc : ev σ c = some (.v (.bool b))) (ht : b = true → W cx (.code x :: k) σ H nl X) (hf : b = false → W cx (.code y :: k) σ H nl X) : W cx (.code (.cond c x y) :: k) σ H nl X :=
  fun a w ρ hok => wp_cond_split (hok.eval hc trivial) (fun e => ht e a w ρ hok) (fun e => hf e a w ρ hok)
theorem W_true {c : Operand} {x y : Code} (hc : ev σ c = some (.v (.bool true))) (ht : W cx (.code x :: k) σ H nl X) : W cx (.code (.cond c x y) :: k) σ H nl X :=
  W_cond hc (fun _ => ht) (fun e => by cases e)
theorem W_false {c : Operand} {x y : Code} (hc : ev σ c = some (.v (.bool false))) (hf : W cx (.code y :: k) σ H nl X) : W cx (.code (.cond c x y) :: k) σ H nl X :=
  W_cond hc (fun e => by cases e) (fun _ => hf)
/-- A test whose outcome is known by a hypothesis. -/
theorem W_yes {c : Operand} {x y : Code} {b : Bool} (hc : ev σ c = some (.v (.bool b))) (hb : b = true) (ht : W cx (.code x :: k) σ H nl X) : W cx (.code (.cond c x y) :: k) σ H nl X :=
  W_cond hc (fun _ => ht) (fun e => by rw [hb] at e; cases e)
theorem W_no {c : Operand} {x y : Code} {b : Bool} (hc : ev σ c = some (.v (.bool b))) (hb : b = false) (hf : W cx (.code y :: k) σ H nl X) : W cx (.code (.cond c x y) :: k) σ H nl X :=
  W_cond hc (fun e => by rw [hb] at e; cases e) (fun _ => hf)

/-! ## results -/
def resv (te : Te) (σ : Fm) (H : Own) : List ResultVar → Option (List Value)
  | [] => some []
  | .tmp t :: r => match look σ t with
    | some s => match real H s with
      | some v => match resv te σ H r with
        | some l => some (v :: l)
        | none => none
      | none => none
    | none => none
  | .cell t T :: r => match look σ t with
    | some (.p l off) => match look H l with
      | some B => match partO te T B.cells off with
        | some v => match resv te σ H r with
          | some l => some (v :: l)
          | none => none
        | none => none
      | none => none
    | _ => none
def tup : List Value → Value
  | [v] => v
  | l => .tuple ⟨l⟩
theorem run_loadVar_partO (hte : TeOk cx.P te) {T : TypeId} {b : Nat × Nat} {off : Nat} {cs : List Value} {v : Value} (hh : Win w b cs) (hv : partO te T cs off = some v) : (loadVar T ⟨b.1, b.2 + off, none⟩).run cx.P w = .ok v w := by
  unfold partO at hv
  split at hv
  · cases hv
  · rename_i i hi
    have hf := hte _ _ hi
    split at hv
    · rename_i hag
      split at hv
      · rename_i r hr
        obtain rfl := Option.some.inj hv
        simp [loadVar, run_agg w hf, hag, run_size w hf, run_loadCells_win hh hr]
      · cases hv
    · rename_i hag
      rw [nthL_eq] at hv
      have hc := cell_of_win hh hv
      simp [loadVar, run_agg w hf, hag, hc]
theorem results_run (hte : TeOk cx.P te) (hok : Ok cx σ H nl X a w ρ) : ∀ {rs : List ResultVar} {vs : List Value}, resv te σ H rs = some vs →
    (rs.mapM (m := Sem) fun
      | .tmp t => pure (a.tmps.getD t undef)
      | .cell b t => do loadVar t (← asAddr (a.tmps.getD b undef))).run cx.P w = .ok vs w := by
  intro rs
  induction rs with
  | nil => intro vs h; simp only [resv, Option.some.injEq] at h; subst h; simp
  | cons r rs ih =>
    intro vs h
    cases r with
    | tmp t =>
      simp only [resv] at h
      split at h
      · rename_i s hs
        split at h
        · rename_i v hv
          split at h
          · rename_i l hl
            obtain rfl := Option.some.inj h
            have e : a.tmps.getD t undef = v := (hok.eval (x := .tmp t) hs (real_cond hv)).trans (hok.v.real hv)
            simp only [List.mapM_cons, Sem.run_bind, Sem.run_pure, Result.andThen_ok, e, ih hl]
          · cases h
        · cases h
      · cases h
    | cell t T =>
      simp only [resv] at h
      split at h
      · rename_i l off hs
        split at h
        · rename_i B hB
          split at h
          · rename_i v hv
            split at h
            · rename_i l2 hl
              obtain rfl := Option.some.inj h
              have hh := hok.heap hB
              have e : a.tmps.getD t undef = .pointer (some ⟨(ρ l).1, (ρ l).2 + off, none⟩) := hok.eval (x := .tmp t) hs trivial
              have hr := run_loadVar_partO hte hh hv
              have hA : (asAddr (a.tmps.getD t undef)).run cx.P w = .ok ⟨(ρ l).1, (ρ l).2 + off, none⟩ w := by rw [e]; rfl
              simp only [List.mapM_cons, Sem.run_bind, Sem.run_pure, Result.andThen_ok, hA, hr, ih hl]
            · cases h
          · cases h
        · cases h
      · cases h
theorem results_ok (hte : TeOk cx.P te) (hok : Ok cx σ H nl X a w ρ) {vs : List Value} (h : resv te σ H cx.fn.results.toList = some vs) : (results cx.fn a.tmps).run cx.P w = .ok (tup vs) w := by
  have hr := results_run hte hok h
  unfold results
  rw [Sem.run_bind, Array.mapM_eq_mapM_toList, Sem.run_map]
  erw [hr]
  simp only [Result.andThen_ok]
  match vs with
  | [] => rfl
  | [v] => rfl
  | _ :: _ :: _ => rfl
theorem W_ret (hte : TeOk cx.P te) {vs : List Value} (h : resv te σ H cx.fn.results.toList = some vs) (hq : cx.Q (.returned (tup vs)) X) : W cx (.code .ret :: k) σ H nl X :=
  fun _ _ _ hok => wp_ret ⟨hok.defers, _, results_ok hte hok h, X, hok.sub, hok.ev, hok.dom, hq⟩
theorem W_end (hte : TeOk cx.P te) {vs : List Value} (h : resv te σ H cx.fn.results.toList = some vs) (hq : cx.Q (.returned (tup vs)) X) : W cx [] σ H nl X :=
  fun a w ρ hok => by
    have h1 : bodyPost cx.P cx.fn (fun e w' => ∃ X', Sub X' w' ∧ Ev cx.X0 cx.w0 w' ∧ Dom cx.X0 X' cx.w0 ∧ cx.Q e X') .normal a w :=
      ⟨hok.defers, _, results_ok hte hok h, X, hok.sub, hok.ev, hok.dom, hq⟩
    exact h1

/-! ## calls -/
def CK (X X' : Hp) : Prop := ∀ b cs T fz, X b = some (.cells cs T fz) → X' b = some (.cells cs T fz)
theorem CK.refl (X : Hp) : CK X X := fun _ _ _ _ h => h
/-- What is read by label stays. -/
def KX (H : Own) (X X' : Hp) : Prop := ∀ l b o T cs, look H l = some (.ext b o T cs) → ∀ full fz, X b = some (.cells full T fz) → X' b = some (.cells full T fz)
theorem CK.kx {H : Own} {X X' : Hp} (h : CK X X') : KX H X X' := fun _ _ _ _ _ _ _ _ e => h _ _ _ _ e
theorem CK.trans {X Y Z : Hp} (h : CK X Y) (k : CK Y Z) : CK X Z := fun b cs T fz e => k b cs T fz (h b cs T fz e)
theorem Ok.moved (hok : Ok cx σ H nl X a w ρ) {X' : Hp} {w' : World} (hs : Sub X' w') (he : Ev X w w') (hd : Dom X X' w) (hck : KX H X X') : Ok cx σ H nl X' a w' ρ := by
  refine ⟨hok.size, hok.defers, hok.val, hok.lab, ?_, hok.inj, hs, hok.ev.trans hok.dom he, hok.dom.trans hd hok.ev.size⟩
  intro l B hl
  obtain ⟨h1, h2⟩ := hok.blk l B hl
  refine ⟨h1, ?_⟩
  have own : ∀ b cs T, w.heap[b]? = some (.cells cs T (0, 0)) → X b = none → w'.heap[b]? = some (.cells cs T (0, 0)) ∧ X' b = none := fun b cs T hb hx => by
    refine ⟨he.keep b _ hb hx, ?_⟩
    cases hx' : X' b with
    | none => rfl
    | some o =>
      rcases hd b (by simp [hx']) with h | h
      · exact absurd hx h
      · have := lt_of_heap hb; omega
  cases B with
  | own T cs => obtain ⟨g1, g2⟩ := own _ _ _ h2.2.1 h2.2.2.1; exact ⟨h2.1, g1, g2, h2.2.2.2⟩
  | bor b T cs => obtain ⟨g1, g2⟩ := own _ _ _ h2.2.1 h2.2.2.1; exact ⟨h2.1, g1, g2, h2.2.2.2⟩
  | ext b o T cs =>
    obtain ⟨e, full, fz, hx, hc⟩ := h2
    exact ⟨e, full, fz, hck _ _ _ _ _ hl _ _ hx, hc⟩
theorem exec_call {P : Program} {cal : Operand} {args : Array Operand} {tys : Array TypeId} {a : Act} {f : FuncId} {fi ca vs : List Value} (ho : o.op = .call { callee := .value cal, args := args, argTypes := tys })
    (hc : a.eval cal = .func (.func f) ⟨fi⟩ ⟨ca⟩) (ha : args.map a.eval = ⟨vs⟩) (he : Enters P f) (w : World) : (execOp a.eval o).run P w = .ok (.enter f (fi ++ vs ++ ca).toArray) w := by
  simp only [execOp, ho, resolve, hc, ha, Deferred.ofValue, Sem.run_bind, Sem.run_pure, Result.andThen_ok, invoke]
  have : (⟨fi⟩ ++ ⟨vs⟩ : Array Value) ++ ⟨ca⟩ = (fi ++ vs ++ ca).toArray := by
    apply Array.ext'; simp
  rw [this]
  exact he _ _
def callee (σ : Fm) (c : Operand) : Option (FuncId × List Value × List Value) :=
  match ev σ c with
  | some (.v (.func (.func f) ⟨fi⟩ ⟨ca⟩)) => some (f, fi, ca)
  | _ => none
/-- A call by contract. -/
theorem W_call {cal : Operand} {args : Array Operand} {tys : Array TypeId} {dst : Option Tmp} {ty : TypeId} {pos : String} {after : Array Edge} {f : FuncId} {fi ca vs : List Value} {Φ : Value → Hp → Prop}
    (hc : callee σ cal = some (f, fi, ca)) (ha : evs σ H args.toList = some vs) (hT : Trip cx.P f (fi ++ vs ++ ca).toArray X (Rt Φ))
    (h : ∀ r X', Φ r X' → KX H X X' ∧ ∃ σ', putS cx.n dst (.v r) σ = some σ' ∧ W cx (.rg ops rest :: k) σ' H nl X') :
    W cx (.rg ops ({ dst := dst, op := .call { callee := .value cal, args := args, argTypes := tys }, type := ty, pos := pos, after := after, guard := none } :: rest) :: k) σ H nl X := by
  intro a w ρ hok
  refine run_op rfl ?_
  have hc' : ev σ cal = some (.v (.func (.func f) ⟨fi⟩ ⟨ca⟩)) := by
    unfold callee at hc
    split at hc
    · rename_i he
      simp only [Option.some.injEq, Prod.mk.injEq] at hc
      obtain ⟨rfl, rfl, rfl⟩ := hc
      exact he
    · cases hc
  have ec := hok.eval hc' trivial
  simp only [SV.den] at ec
  unfold Oper.wp
  rw [exec_call rfl ec (evs_eval hok.v ha) hT.1 w]
  refine (hT.2 w hok.sub).mono ?_
  rintro e w' ⟨X', hs, he, hd, hq⟩
  cases e with
  | returned r =>
    obtain ⟨hck, σ', hp, hW⟩ := h r X' hq
    exact hW _ _ _ ((hok.moved hs he hd hck).put hp trivial)
  | panicked c => exact hq.elim
  | outgrown => exact hq.elim

/-! ## less is known; loops -/
def Wk (σ : Fm) : Fm → Prop
  | [] => True
  | (t, s) :: r => look σ t = some s ∧ Wk σ r
theorem Wk_spec : ∀ {τ : Fm}, Wk σ τ → ∀ t s, look τ t = some s → look σ t = some s := by
  intro τ
  induction τ with
  | nil => intro _ t s h; cases h
  | cons p τ ih =>
    intro h t s hl
    obtain ⟨u, q⟩ := p
    by_cases e : u = t
    · subst e; rw [look_cons_self] at hl; obtain rfl := Option.some.inj hl; exact h.1
    · rw [look_cons_ne _ _ e] at hl; exact ih h.2 t s hl
def WkO (H : Own) : Own → Prop
  | [] => True
  | (l, B) :: r => look H l = some B ∧ WkO H r
theorem WkO_spec : ∀ {G : Own}, WkO H G → ∀ l B, look G l = some B → look H l = some B := by
  intro G
  induction G with
  | nil => intro _ l B h; cases h
  | cons p G ih =>
    intro h l B hl
    obtain ⟨u, q⟩ := p
    by_cases e : u = l
    · subst e; rw [look_cons_self] at hl; obtain rfl := Option.some.inj hl; exact h.1
    · rw [look_cons_ne _ _ e] at hl; exact ih h.2 l B hl
theorem W_weak {τ : Fm} {G : Own} (hs : Wk σ τ) (ho : WkO H G) (h : W cx k τ G nl X) : W cx k σ H nl X :=
  fun a w ρ hok => h a w ρ (hok.weaken (Wk_spec hs) (WkO_spec ho))
/-- Which labels a frame and blocks speak of: all below n. -/
def LabS (n : Nat) : Fm → Prop
  | [] => True
  | (_, s) :: r => s.below n ∧ LabS n r
theorem LabS_spec {n : Nat} : ∀ {τ : Fm}, LabS n τ → ∀ t s, look τ t = some s → s.below n := by
  intro τ
  induction τ with
  | nil => intro _ t s h; cases h
  | cons p τ ih =>
    intro h t s hl
    obtain ⟨u, q⟩ := p
    by_cases e : u = t
    · subst e; rw [look_cons_self] at hl; obtain rfl := Option.some.inj hl; exact h.1
    · rw [look_cons_ne _ _ e] at hl; exact ih h.2 t s hl
def LabO (n : Nat) : Own → Prop
  | [] => True
  | (l, _) :: r => l < n ∧ LabO n r
theorem LabO_spec {n : Nat} : ∀ {G : Own}, LabO n G → ∀ l B, look G l = some B → l < n := by
  intro G
  induction G with
  | nil => intro _ l B h; cases h
  | cons p G ih =>
    intro h l B hl
    obtain ⟨u, q⟩ := p
    by_cases e : u = l
    · subst e; exact h.1
    · rw [look_cons_ne _ _ e] at hl; exact ih h.2 l B hl
theorem Ok.relab (hok : Ok cx σ H nl X a w ρ) (hs : LabS nl' σ) (ho : LabO nl' H) : Ok cx σ H nl' X a w ρ :=
  ⟨hok.size, hok.defers, hok.val, LabS_spec hs, fun l B hl => ⟨LabO_spec ho l B hl, (hok.blk l B hl).2⟩, hok.inj, hok.sub, hok.ev, hok.dom⟩
/-- The head of a loop, as a family of states. -/
def Head (cx : Cx) {ι : Type} (I : ι → Prop) (μ : ι → Nat) (m : Nat) (σf : ι → Fm) (Hf : ι → Own) (nl : Nat) (Xf : ι → Hp) : Act → World → Prop :=
  fun a w => ∃ i ρ, I i ∧ μ i < m ∧ Ok cx (σf i) (Hf i) nl (Xf i) a w ρ
theorem W_loop {ι : Type} (I : ι → Prop) (μ : ι → Nat) (σf : ι → Fm) (Hf : ι → Own) (Xf : ι → Hp) {c : Code} (i0 : ι) (h0 : I i0) (hs : Wk σ (σf i0)) (ho : WkO H (Hf i0)) (hX : X = Xf i0)
    (round : ∀ i, I i → W cx (.code c :: .fin (Head cx I μ (μ i) σf Hf nl Xf) :: k) (σf i) (Hf i) nl (Xf i)) : W cx (.code (.loop c) :: k) σ H nl X := by
  intro a w ρ hok
  subst hX
  have hok' := hok.weaken (Wk_spec hs) (WkO_spec ho)
  refine wp_loop_ghost (fun m a w => ∃ i ρ, I i ∧ μ i = m ∧ Ok cx (σf i) (Hf i) nl (Xf i) a w ρ) (μ i0) ⟨i0, ρ, h0, rfl, hok'⟩ ?_
  rintro m a w ⟨i, ρ, hI, rfl, hi⟩
  refine wp_mono (round i hI a w ρ hi) ?_
  intro e a' w' hq
  cases e with
  | normal =>
    obtain ⟨i', ρ', h1, h2, h3⟩ := hq
    exact ⟨μ i', h2, i', ρ', h1, rfl, h3⟩
  | exit id => exact hq
  | goto l => exact hq
  | ret => exact hq
  | panic ch => exact hq
  | outgrown => exact hq
theorem W_fin {J : Act → World → Prop} (h : ∀ a w ρ, Ok cx σ H nl X a w ρ → J a w) : W cx (.fin J :: k) σ H nl X := h
/-- The end of a round. -/
theorem W_round {ι : Type} {I : ι → Prop} {μ : ι → Nat} {m n0 : Nat} {σf : ι → Fm} {Hf : ι → Own} {Xf : ι → Hp} (i : ι) (hI : I i) (hm : μ i < m) (hs : Wk σ (σf i)) (ho : WkO H (Hf i)) (hX : X = Xf i) (hl : LabS n0 (σf i)) (hg : LabO n0 (Hf i)) :
    W cx (.fin (Head cx I μ m σf Hf n0 Xf) :: k) σ H nl X := fun a w ρ hok => by
  subst hX
  exact ⟨i, ρ, hI, hm, (hok.weaken (Wk_spec hs) (WkO_spec ho)).relab hl hg⟩
end
end Go.Fw
/- More rules of the walk: guards that part the ways; blocks that are handed over and borrowed; regions that draw their order. -/
namespace Go.Fw
open Go.RowKit
section
variable {cx : Cx} {k k' : List It} {σ σ' : Fm} {H H' : Own} {nl nl' : Nat} {X : Hp} {a : Act} {w : World} {ρ : Nat → Nat × Nat} {te : Te} {s : SV} {ops : Array Oper} {o : Oper} {rest : List Oper}
/-! ## guards -/
theorem W_guard {op : Op} {dst : Option Tmp} {ty : TypeId} {pos : String} {after : Array Edge} {j t : Nat} {want b : Bool} (hj : gslot ops j = some t) (ht : look σ t = some (.v (.bool b)))
    (hy : b = want → W cx (.rg ops ({ dst := dst, op := op, type := ty, pos := pos, after := after, guard := none } :: rest) :: k) σ H nl X)
    (hn : b = !want → ∃ σ', putS cx.n dst (.v undef) σ = some σ' ∧ W cx (.rg ops rest :: k) σ' H nl X) :
    W cx (.rg ops ({ dst := dst, op := op, type := ty, pos := pos, after := after, guard := some (j, want) } :: rest) :: k) σ H nl X := by
  intro a w ρ hok
  have hyd := slot_bool hok hj ht
  by_cases e : b = want
  · have h1 : wpList cx.P ops (post cx.B (kont cx.P cx.B k)) ({ dst := dst, op := op, type := ty, pos := pos, after := after, guard := none } :: rest) a w := hy e a w ρ hok
    show wpList cx.P ops (post cx.B (kont cx.P cx.B k)) _ a w
    unfold wpList at h1 ⊢
    rw [if_pos (by rfl)] at h1
    rw [if_pos (by simp [Region.wanted, hyd, e])]
    exact h1
  · refine run_op_skip (by simp [Region.wanted, hyd, e]) ?_
    have e' : b = !want := by cases b <;> cases want <;> simp_all
    obtain ⟨σ', hp, hW⟩ := hn e'
    exact hW _ _ _ (hok.put hp trivial)
theorem W_guard_y {op : Op} {dst : Option Tmp} {ty : TypeId} {pos : String} {after : Array Edge} {j t : Nat} {want b : Bool} (hj : gslot ops j = some t) (ht : look σ t = some (.v (.bool b))) (hb : b = want)
    (hy : W cx (.rg ops ({ dst := dst, op := op, type := ty, pos := pos, after := after, guard := none } :: rest) :: k) σ H nl X) :
    W cx (.rg ops ({ dst := dst, op := op, type := ty, pos := pos, after := after, guard := some (j, want) } :: rest) :: k) σ H nl X :=
  W_guard hj ht (fun _ => hy) (fun e => by subst hb; cases b <;> cases e)
theorem W_guard_n {op : Op} {dst : Option Tmp} {ty : TypeId} {pos : String} {after : Array Edge} {j t : Nat} {want b : Bool} (hj : gslot ops j = some t) (ht : look σ t = some (.v (.bool b))) (hb : b = !want)
    (hp : putS cx.n dst (.v undef) σ = some σ') (hn : W cx (.rg ops rest :: k) σ' H nl X) :
    W cx (.rg ops ({ dst := dst, op := op, type := ty, pos := pos, after := after, guard := some (j, want) } :: rest) :: k) σ H nl X :=
  W_guard hj ht (fun e => by subst e; cases b <;> cases hb) (fun _ => ⟨σ', hp, hn⟩)
/-- A choice whose test is known. -/
theorem W_pick {c x y : Operand} {dst : Option Tmp} {ty : TypeId} {pos : String} {after : Array Edge} {b : Bool} {s : SV} (hc : ev σ c = some (.v (.bool b))) (hs : (match b with | true => evP σ x | false => evP σ y) = some s)
    (hp : putS cx.n dst s σ = some σ') (h : W cx (.rg ops rest :: k) σ' H nl X) :
    W cx (.rg ops ({ dst := dst, op := .pick c x y, type := ty, pos := pos, after := after, guard := none } :: rest) :: k) σ H nl X := by
  intro a w ρ hok
  refine run_op rfl ?_
  have ec := hok.eval hc trivial
  simp only [SV.den] at ec
  unfold Oper.wp
  cases b with
  | true =>
    obtain ⟨h1, h2⟩ := evP_spec hs
    have hr : (execOp a.eval { dst := dst, op := .pick c x y, type := ty, pos := pos, after := after, guard := none }).run cx.P w = .ok (.value (s.den ρ)) w := by
      simp [execOp, ec, asBool, hok.eval h1 h2]
    rw [hr]
    exact h _ _ _ (hok.put hp (hok.below h1))
  | false =>
    obtain ⟨h1, h2⟩ := evP_spec hs
    have hr : (execOp a.eval { dst := dst, op := .pick c x y, type := ty, pos := pos, after := after, guard := none }).run cx.P w = .ok (.value (s.den ρ)) w := by
      simp [execOp, ec, asBool, hok.eval h1 h2]
    rw [hr]
    exact h _ _ _ (hok.put hp (hok.below h1))

/-! ## blocks that change hands -/
/-- A frame in which the label l stands for the block b: its addresses are written out, and what hangs on no value is kept. -/
def reS (l b : Nat) : Fm → Fm → Fm
  | [], acc => acc
  | (t, s) :: r, acc => match s with
    | .p l' off => match Nat.beq l l' with
      | true => reS l b r ((t, .v (.pointer (some ⟨b, off, none⟩))) :: acc)
      | false => reS l b r ((t, .p l' off) :: acc)
    | .sl l' off n c => match Nat.beq l l' with
      | true => reS l b r ((t, .v (.slice (some ⟨b, off, none⟩) n c)) :: acc)
      | false => reS l b r ((t, .sl l' off n c) :: acc)
    | .sy l' off n c => match Nat.beq l l' with
      | true => reS l b r ((t, .v (.slice (some ⟨b, off, none⟩) n c)) :: acc)
      | false => reS l b r ((t, .sy l' off n c) :: acc)
    | .gp c d l' off => match Nat.beq l l' with
      | true => reS l b r ((t, .g c d (.pointer (some ⟨b, off, none⟩))) :: acc)
      | false => reS l b r ((t, .gp c d l' off) :: acc)
    | s => reS l b r ((t, s) :: acc)
def re1 (l b : Nat) : SV → SV
  | .p l' off => if l = l' then .v (.pointer (some ⟨b, off, none⟩)) else .p l' off
  | .sl l' off n c => if l = l' then .v (.slice (some ⟨b, off, none⟩) n c) else .sl l' off n c
  | .sy l' off n c => if l = l' then .v (.slice (some ⟨b, off, none⟩) n c) else .sy l' off n c
  | .gp c d l' off => if l = l' then .g c d (.pointer (some ⟨b, off, none⟩)) else .gp c d l' off
  | s => s
theorem beq_false_ne {a b : Nat} (h : Nat.beq a b = false) : a ≠ b := fun e => by subst e; simp at h
theorem reS_eq (l b : Nat) : ∀ (τ acc : Fm), reS l b τ acc = (τ.map (fun p => (p.1, re1 l b p.2))).reverse ++ acc := by
  intro τ
  induction τ with
  | nil => intro acc; rfl
  | cons p τ ih =>
    intro acc
    obtain ⟨t, s⟩ := p
    cases s with
    | v x => simp only [reS]; rw [ih]; simp [re1]
    | g c d x => simp only [reS]; rw [ih]; simp [re1]
    | gp c d l' off =>
      simp only [reS]
      split
      · rename_i h; have := Nat.eq_of_beq_eq_true h; rw [ih]; simp [re1, this]
      · rename_i h; have := beq_false_ne h; rw [ih]; simp [re1, this]
    | p l' off =>
      simp only [reS]
      split
      · rename_i h; have := Nat.eq_of_beq_eq_true h; rw [ih]; simp [re1, this]
      · rename_i h; have := beq_false_ne h; rw [ih]; simp [re1, this]
    | sl l' off n c =>
      simp only [reS]
      split
      · rename_i h; have := Nat.eq_of_beq_eq_true h; rw [ih]; simp [re1, this]
      · rename_i h; have := beq_false_ne h; rw [ih]; simp [re1, this]
    | sy l' off n c =>
      simp only [reS]
      split
      · rename_i h; have := Nat.eq_of_beq_eq_true h; rw [ih]; simp [re1, this]
      · rename_i h; have := beq_false_ne h; rw [ih]; simp [re1, this]
def revA {α : Type} : List α → List α → List α
  | [], acc => acc
  | x :: l, acc => revA l (x :: acc)
theorem revA_eq {α : Type} (l acc : List α) : revA l acc = l.reverse ++ acc := by
  induction l generalizing acc with
  | nil => rfl
  | cons x l ih => simp [revA, ih]
theorem look_map (f : SV → SV) : ∀ (τ : Fm) (t : Nat), look (τ.map (fun p => (p.1, f p.2))) t = (look τ t).map f := by
  intro τ
  induction τ with
  | nil => intro t; rfl
  | cons p τ ih =>
    intro t
    obtain ⟨u, s⟩ := p
    by_cases e : u = t
    · subst e; simp [look_cons_self]
    · simp only [List.map_cons]; rw [look_cons_ne _ _ e, look_cons_ne _ _ e]; exact ih t
/-- Without the label l. -/
def delO (l : Nat) : Own → Own
  | [] => []
  | (i, B) :: r => match Nat.beq l i with
    | true => delO l r
    | false => (i, B) :: delO l r
theorem look_del {l : Nat} : ∀ {G : Own} {i : Nat} {B : Blk}, look (delO l G) i = some B → i ≠ l ∧ look G i = some B := by
  intro G
  induction G with
  | nil => intro i B h; cases h
  | cons p G ih =>
    intro i B h
    obtain ⟨u, C⟩ := p
    simp only [delO] at h
    split at h
    · rename_i e
      have e := Nat.eq_of_beq_eq_true e
      obtain ⟨h1, h2⟩ := ih h
      exact ⟨h1, by rw [look_cons_ne _ _ (by omega)]; exact h2⟩
    · rename_i e
      have e := beq_false_ne e
      by_cases he : u = i
      · subst he
        rw [look_cons_self] at h
        obtain rfl := Option.some.inj h
        exact ⟨Ne.symm e, by rw [look_cons_self]⟩
      · rw [look_cons_ne _ _ he] at h
        obtain ⟨h1, h2⟩ := ih h
        exact ⟨h1, by rw [look_cons_ne _ _ he]; exact h2⟩
theorem Ok.hand (hok : Ok cx σ H nl X a w ρ) {l : Nat} {B : Blk} {T : TypeId} {cs : List Value} (hl : look H l = some B) (hB : B = .own T cs ∨ ∃ b, B = .bor b T cs) :
    X (ρ l).1 = none ∧ cx.Free (ρ l).1 ∧ Ok cx (σ.map (fun p => (p.1, re1 l (ρ l).1 p.2))) (delO l H) nl (X.upd (ρ l).1 (.cells cs.toArray T (0, 0))) a w ρ := by
  have hb : (ρ l).2 = 0 ∧ w.heap[(ρ l).1]? = some (.cells cs.toArray T (0, 0)) ∧ X (ρ l).1 = none ∧ cx.Free (ρ l).1 ∧ B.mine = true := by
    have h2 := (hok.blk l B hl).2
    rcases hB with rfl | ⟨b, rfl⟩
    · exact ⟨h2.1, h2.2.1, h2.2.2.1, h2.2.2.2, rfl⟩
    · exact ⟨by rw [h2.1], h2.2.1, h2.2.2.1, h2.2.2.2, rfl⟩
  obtain ⟨hz, hh, hX, hF, hm⟩ := hb
  have hden : ∀ s : SV, (re1 l (ρ l).1 s).den ρ = s.den ρ := fun s => by
    cases s with
    | v x => rfl
    | g c d x => rfl
    | gp c d l' off => by_cases e : l = l' <;> first | (subst e; simp [re1, SV.den, hz]) | simp [re1, e, SV.den]
    | p l' off => by_cases e : l = l' <;> first | (subst e; simp [re1, SV.den, hz]) | simp [re1, e, SV.den]
    | sl l' off n c => by_cases e : l = l' <;> first | (subst e; simp [re1, SV.den, hz]) | simp [re1, e, SV.den]
    | sy l' off n c => by_cases e : l = l' <;> first | (subst e; simp [re1, SV.den, hz]) | simp [re1, e, SV.den]
  have hcond : ∀ s : SV, (re1 l (ρ l).1 s).cond → s.cond := fun s h => by
    cases s with
    | g c d x => exact h
    | gp c d l' off => by_cases e : l = l' <;> first | (subst e; simpa [re1, SV.cond] using h) | simpa [re1, e, SV.cond] using h
    | _ => trivial
  refine ⟨hX, hF, hok.size, hok.defers, ?_, ?_, ?_, ?_, ?_, hok.ev, ?_⟩
  · intro t s ht hc
    rw [look_map] at ht
    cases hs : look σ t with
    | none => rw [hs] at ht; cases ht
    | some q =>
      rw [hs] at ht
      obtain rfl := Option.some.inj ht
      rw [hden]; exact hok.val t q hs (hcond q hc)
  · intro t s ht
    rw [look_map] at ht
    cases hs : look σ t with
    | none => rw [hs] at ht; cases ht
    | some q =>
      rw [hs] at ht
      obtain rfl := Option.some.inj ht
      have h1 := hok.lab t q hs
      cases q with
      | v x => trivial
      | g c d x => trivial
      | gp c d l' off => by_cases e : l = l' <;> simp [re1, e, SV.below] at h1 ⊢; exact h1
      | p l' off => by_cases e : l = l' <;> simp [re1, e, SV.below] at h1 ⊢; exact h1
      | sl l' off n c => by_cases e : l = l' <;> simp [re1, e, SV.below] at h1 ⊢; exact h1
      | sy l' off n c => by_cases e : l = l' <;> simp [re1, e, SV.below] at h1 ⊢; exact h1
  · intro i C hi
    obtain ⟨hne, hi'⟩ := look_del hi
    obtain ⟨h1, h2⟩ := hok.blk i C hi'
    refine ⟨h1, ?_⟩
    have hnb : C.mine = true → (ρ i).1 ≠ (ρ l).1 := fun hm' e => hne (hok.inj i l C B hi' hl hm' hm e)
    cases C with
    | own U ds => exact ⟨h2.1, h2.2.1, by rw [Hp.upd_ne _ _ (hnb rfl)]; exact h2.2.2.1, h2.2.2.2⟩
    | bor b U ds => exact ⟨h2.1, h2.2.1, by rw [Hp.upd_ne _ _ (hnb rfl)]; exact h2.2.2.1, h2.2.2.2⟩
    | ext b o U ds =>
      obtain ⟨e0, full, fz, hx, hc⟩ := h2
      refine ⟨e0, full, fz, ?_, hc⟩
      rw [Hp.upd_ne _ _ (fun e => by rw [e, hX] at hx; cases hx)]
      exact hx
  · intro i j C D hi hj
    exact hok.inj i j C D (look_del hi).2 (look_del hj).2
  · intro b o hb
    by_cases e : b = (ρ l).1
    · subst e
      rw [Hp.upd_same] at hb
      obtain rfl := Option.some.inj hb
      exact hh
    · rw [Hp.upd_ne _ _ e] at hb
      exact hok.sub b o hb
  · intro b hb
    by_cases e : b = (ρ l).1
    · subst e; exact hF
    · rw [Hp.upd_ne _ _ e] at hb
      exact hok.dom b hb
/-- An own block is handed over to the partial heap: it has a number now. -/
theorem W_pub (l : Nat) {T : TypeId} {cs : List Value} (hl : look H l = some (.own T cs)) (h : ∀ b, X b = none → cx.Free b → W cx k (revA (reS l b σ []) []) (delO l H) nl (X.upd b (.cells cs.toArray T (0, 0)))) : W cx k σ H nl X := by
  intro a w ρ hok
  obtain ⟨h1, h2, h3⟩ := hok.hand hl (.inl rfl)
  refine h (ρ l).1 h1 h2 a w ρ ?_
  rw [revA_eq, reS_eq]
  simpa using h3
/-- A borrowed block is given back. -/
theorem W_give (l : Nat) {b : Nat} {T : TypeId} {cs : List Value} (hl : look H l = some (.bor b T cs)) (h : W cx k (revA (reS l b σ []) []) (delO l H) nl (X.upd b (.cells cs.toArray T (0, 0)))) : W cx k σ H nl X := by
  intro a w ρ hok
  obtain ⟨h1, h2, h3⟩ := hok.hand hl (.inr ⟨b, rfl⟩)
  have e : ρ l = (b, 0) := (hok.blk l _ hl).2.1
  rw [e] at h3
  refine h a w ρ ?_
  rw [revA_eq, reS_eq]
  simpa using h3
end
end Go.Fw
/- More rules of the walk: blocks that are borrowed or only read. -/
namespace Go.Fw
open Go.RowKit
section
variable {cx : Cx} {k k' : List It} {σ σ' : Fm} {H H' : Own} {nl nl' : Nat} {X : Hp} {a : Act} {w : World} {ρ : Nat → Nat × Nat} {te : Te} {s : SV} {ops : Array Oper} {o : Oper} {rest : List Oper}
def extOk (b : Nat) : Own → Prop
  | [] => True
  | (_, .ext c _ _ _) :: r => c ≠ b ∧ extOk b r
  | _ :: r => extOk b r
theorem extOk_spec {b : Nat} : ∀ {G : Own}, extOk b G → ∀ l c o T cs, look G l = some (.ext c o T cs) → c ≠ b := by
  intro G
  induction G with
  | nil => intro _ l c o T cs h; cases h
  | cons p G ih =>
    intro h l c o T cs hl
    obtain ⟨u, B⟩ := p
    by_cases e : u = l
    · subst e
      rw [look_cons_self] at hl
      obtain rfl := Option.some.inj hl
      exact h.1
    · rw [look_cons_ne _ _ e] at hl
      cases B with
      | ext c' o' T' cs' => exact ih h.2 l c o T cs hl
      | own T' cs' => exact ih h l c o T cs hl
      | bor b' T' cs' => exact ih h l c o T cs hl
theorem Ok.borrow {b : Nat} {T : TypeId} {cs : List Value} (hok : Ok cx σ H nl (X.upd b (.cells cs.toArray T (0, 0))) a w ρ) (hX : X b = none) (he : extOk b H) :
    Ok cx σ ((nl, .bor b T cs) :: H) (nl + 1) X a w (fun l => if l = nl then (b, 0) else ρ l) := by
  have hsub : ∀ c o, X c = some o → (X.upd b (.cells cs.toArray T (0, 0))) c = some o := fun c o hc => by
    rw [Hp.upd_ne _ _ (fun e => by rw [e, hX] at hc; cases hc)]; exact hc
  have hfree : cx.Free b := by
    rcases hok.dom b (by rw [Hp.upd_same]; simp) with h | h
    · exact .inl h
    · exact .inr h
  have hmine : ∀ l B, look H l = some B → B.mine = true → (ρ l).1 ≠ b ∧ X (ρ l).1 = none := fun l B hl hm => by
    have h2 := (hok.blk l B hl).2
    have h3 : (X.upd b (.cells cs.toArray T (0, 0))) (ρ l).1 = none := by
      cases B with
      | own U ds => exact h2.2.2.1
      | bor c U ds => exact h2.2.2.1
      | ext c o U ds => cases hm
    have hne : (ρ l).1 ≠ b := fun e => by rw [e, Hp.upd_same] at h3; cases h3
    exact ⟨hne, by rw [Hp.upd_ne _ _ hne] at h3; exact h3⟩
  refine ⟨hok.size, hok.defers, ?_, ?_, ?_, ?_, fun c o hc => hok.sub c o (hsub c o hc), hok.ev, ?_⟩
  · intro t v ht hc
    rw [hok.val t v ht hc]
    have hb := hok.lab t v ht
    cases v <;> simp only [SV.den, SV.below] at hb ⊢
    all_goals rw [if_neg (Nat.ne_of_lt hb)]
  · intro t v ht
    have hb := hok.lab t v ht
    cases v <;> simp only [SV.below] at hb ⊢
    all_goals exact Nat.lt_succ_of_lt hb
  · intro l B hl
    by_cases e : nl = l
    · subst e
      rw [look_cons_self] at hl
      obtain rfl := Option.some.inj hl
      exact ⟨Nat.lt_succ_self _, by rw [if_pos rfl], by rw [if_pos rfl]; exact hok.sub b _ (Hp.upd_same _ _ _), by rw [if_pos rfl]; exact hX, by rw [if_pos rfl]; exact hfree⟩
    · rw [look_cons_ne _ _ e] at hl
      obtain ⟨h1, h2⟩ := hok.blk l B hl
      refine ⟨Nat.lt_succ_of_lt h1, ?_⟩
      rw [if_neg (Nat.ne_of_lt h1)]
      cases B with
      | own U ds => exact ⟨h2.1, h2.2.1, (hmine l _ hl rfl).2, h2.2.2.2⟩
      | bor c U ds => exact ⟨h2.1, h2.2.1, (hmine l _ hl rfl).2, h2.2.2.2⟩
      | ext c o U ds =>
        have hne := extOk_spec he l c o U ds hl
        obtain ⟨e0, full, fz, hx, hc⟩ := h2
        refine ⟨e0, full, fz, ?_, hc⟩
        rw [Hp.upd_ne _ _ hne] at hx; exact hx
  · intro l l' B B' hl hl' hm hm' hee
    by_cases e : nl = l
    · by_cases e' : nl = l'
      · omega
      · rw [look_cons_ne _ _ e'] at hl'
        rw [if_pos e.symm, if_neg (Ne.symm e')] at hee
        exact absurd hee.symm (hmine l' B' hl' hm').1
    · rw [look_cons_ne _ _ e] at hl
      by_cases e' : nl = l'
      · rw [if_neg (Ne.symm e), if_pos e'.symm] at hee
        exact absurd hee (hmine l B hl hm).1
      · rw [look_cons_ne _ _ e'] at hl'
        rw [if_neg (Ne.symm e), if_neg (Ne.symm e')] at hee
        exact hok.inj l l' B B' hl hl' hm hm' hee
  · intro c hc
    rcases hok.dom c (by
      by_cases e : c = b
      · subst e; rw [Hp.upd_same]; simp
      · rw [Hp.upd_ne _ _ e]; exact hc) with h | h
    · exact .inl h
    · exact .inr h
/-- A slot's value under another name. -/
theorem Ok.nameX {t : Nat} {s q : SV} (hok : Ok cx σ H nl X a w ρ) (ht : look σ t = some s) (hs : s.cond) (hd : q.den ρ = s.den ρ) (hb : q.below nl) : Ok cx ((t, q) :: σ) H nl X a w ρ := by
  refine ⟨hok.size, hok.defers, ?_, ?_, hok.blk, hok.inj, hok.sub, hok.ev, hok.dom⟩
  · intro u r hu hc
    by_cases e' : t = u
    · subst e'
      rw [look_cons_self] at hu
      obtain rfl := Option.some.inj hu
      rw [hok.val t _ ht hs, hd]
    · rw [look_cons_ne _ _ e'] at hu; exact hok.val u r hu hc
  · intro u r hu
    by_cases e' : t = u
    · subst e'
      rw [look_cons_self] at hu
      obtain rfl := Option.some.inj hu
      exact hb
    · rw [look_cons_ne _ _ e'] at hu; exact hok.lab u r hu
theorem Ok.name {t l off b : Nat} {T : TypeId} {cs : List Value} (hok : Ok cx σ H nl X a w ρ) (hl : look H l = some (.bor b T cs)) (ht : look σ t = some (.v (.pointer (some ⟨b, off, none⟩)))) : Ok cx ((t, .p l off) :: σ) H nl X a w ρ :=
  hok.nameX ht trivial (by simp [SV.den, (hok.blk l _ hl).2.1]) (hok.blk l _ hl).1
/-- A block of the partial heap is borrowed: slot t holds its address. -/
theorem W_bor (t : Nat) {b off : Nat} {T : TypeId} {cs : List Value} (ht : look σ t = some (.v (.pointer (some ⟨b, off, none⟩)))) (hX : X b = none) (he : extOk b H) (h : W cx k ((t, .p nl off) :: σ) ((nl, .bor b T cs) :: H) (nl + 1) X) :
    W cx k σ H nl (X.upd b (.cells cs.toArray T (0, 0))) :=
  fun a w _ hok => h a w _ ((hok.borrow hX he).name (look_cons_self _ _ _) ht)
theorem W_name (t l : Nat) {b off : Nat} {T : TypeId} {cs : List Value} (hl : look H l = some (.bor b T cs)) (ht : look σ t = some (.v (.pointer (some ⟨b, off, none⟩)))) (h : W cx k ((t, .p l off) :: σ) H nl X) : W cx k σ H nl X :=
  fun a w _ hok => h a w _ (hok.name hl ht)
/-- Some cells of the partial heap get a label. -/
theorem Ok.extend {b o : Nat} {T : TypeId} {cs : List Value} {full : Array Value} {fz : Nat × Nat} (hok : Ok cx σ H nl X a w ρ) (hX : X b = some (.cells full T fz)) (hc : ∀ j, j < cs.length → full[o + j]? = cs[j]?) :
    Ok cx σ ((nl, .ext b o T cs) :: H) (nl + 1) X a w (fun l => if l = nl then (b, o) else ρ l) := by
  refine ⟨hok.size, hok.defers, ?_, ?_, ?_, ?_, hok.sub, hok.ev, hok.dom⟩
  · intro t v ht hc
    rw [hok.val t v ht hc]
    have hb := hok.lab t v ht
    cases v <;> simp only [SV.den, SV.below] at hb ⊢
    all_goals rw [if_neg (Nat.ne_of_lt hb)]
  · intro t v ht
    have hb := hok.lab t v ht
    cases v <;> simp only [SV.below] at hb ⊢
    all_goals exact Nat.lt_succ_of_lt hb
  · intro l B hl
    by_cases e : nl = l
    · subst e
      rw [look_cons_self] at hl
      obtain rfl := Option.some.inj hl
      exact ⟨Nat.lt_succ_self _, by rw [if_pos rfl], full, fz, hX, hc⟩
    · rw [look_cons_ne _ _ e] at hl
      obtain ⟨h1, h2⟩ := hok.blk l B hl
      refine ⟨Nat.lt_succ_of_lt h1, ?_⟩
      rw [if_neg (Nat.ne_of_lt h1)]
      exact h2
  · intro l l' B B' hl hl' hm hm' hee
    by_cases e : nl = l
    · subst e; rw [look_cons_self] at hl; obtain rfl := Option.some.inj hl; cases hm
    · by_cases e' : nl = l'
      · subst e'; rw [look_cons_self] at hl'; obtain rfl := Option.some.inj hl'; cases hm'
      · rw [look_cons_ne _ _ e] at hl
        rw [look_cons_ne _ _ e'] at hl'
        rw [if_neg (Ne.symm e), if_neg (Ne.symm e')] at hee
        exact hok.inj l l' B B' hl hl' hm hm' hee
/-- A slice of known length whose cells are known: it is read by label. -/
theorem W_ext (t : Nat) {b off n c : Nat} {T : TypeId} {cs : List Value} {full : Array Value} {fz : Nat × Nat} (ht : look σ t = some (.v (.slice (some ⟨b, off, none⟩) n c))) (hX : X b = some (.cells full T fz)) (hc : ∀ j, j < cs.length → full[off + j]? = cs[j]?)
    (h : W cx k ((t, .sl nl 0 n c) :: σ) ((nl, .ext b off T cs) :: H) (nl + 1) X) : W cx k σ H nl X :=
  fun a w _ hok => h a w _ ((hok.extend hX hc).nameX ht trivial (by simp [SV.den]) (Nat.lt_succ_self _))
/-- A slice of whatever length whose cells are known. -/
theorem W_exty (t : Nat) {b off n c : Nat} {T : TypeId} {cs : List Value} {full : Array Value} {fz : Nat × Nat} (ht : look σ t = some (.v (.slice (some ⟨b, off, none⟩) n c))) (hX : X b = some (.cells full T fz)) (hc : ∀ j, j < cs.length → full[off + j]? = cs[j]?)
    (h : W cx k ((t, .sy nl 0 n c) :: σ) ((nl, .ext b off T cs) :: H) (nl + 1) X) : W cx k σ H nl X :=
  fun a w _ hok => h a w _ ((hok.extend hX hc).nameX ht trivial (by simp [SV.den]) (Nat.lt_succ_self _))
/-- A pointer at cells that are known, and only read. -/
theorem W_extp (t : Nat) {b off : Nat} {T : TypeId} {cs : List Value} {full : Array Value} {fz : Nat × Nat} (ht : look σ t = some (.v (.pointer (some ⟨b, off, none⟩)))) (hX : X b = some (.cells full T fz)) (hc : ∀ j, j < cs.length → full[off + j]? = cs[j]?)
    (h : W cx k ((t, .p nl 0) :: σ) ((nl, .ext b off T cs) :: H) (nl + 1) X) : W cx k σ H nl X :=
  fun a w _ hok => h a w _ ((hok.extend hX hc).nameX ht trivial (by simp [SV.den]) (Nat.lt_succ_self _))
/-- A step that gives a value and leaves the world as it is. -/
theorem W_val {op : Op} {dst : Option Tmp} {ty : TypeId} {pos : String} {after : Array Edge} {s : SV} (hr : ∀ a w ρ, Ok cx σ H nl X a w ρ → (execOp a.eval { dst := dst, op := op, type := ty, pos := pos, after := after, guard := none }).run cx.P w = .ok (.value (s.den ρ)) w ∧ s.below nl)
    (hp : putS cx.n dst s σ = some σ') (h : W cx (.rg ops rest :: k) σ' H nl X) : W cx (.rg ops ({ dst := dst, op := op, type := ty, pos := pos, after := after, guard := none } :: rest) :: k) σ H nl X := by
  intro a w ρ hok
  refine run_op rfl ?_
  obtain ⟨h1, h2⟩ := hr a w ρ hok
  unfold Oper.wp
  rw [h1]
  exact h _ _ _ (hok.put hp h2)
end
end Go.Fw
/- Regions that draw their order. -/
namespace Go.Fw
open Go.RowKit
def memL : List Nat → Nat → Bool
  | [], _ => false
  | i :: L, j => match Nat.beq i j with
    | true => true
    | false => memL L j
theorem memL_spec {L : List Nat} {j : Nat} : memL L j = true ↔ j ∈ L := by
  induction L with
  | nil => simp [memL]
  | cons i L ih =>
    simp only [memL]
    split
    · rename_i h; have := Nat.eq_of_beq_eq_true h; simp [this]
    · rename_i h; have := beq_false_ne h; simp [ih, Ne.symm this]
def bindB (e : Edge) : Bool :=
  match e.ground with
  | .textOnly _ => false
  | .gcOnly _ => false
  | _ => true
theorem bindB_eq (e : Edge) : Region.binds .any e = bindB e := by
  unfold Region.binds bindB; cases e.ground <;> rfl
def edgesOk (L : List Nat) : List Edge → Bool
  | [] => true
  | e :: r => match bindB e with
    | false => edgesOk L r
    | true => match memL L e.on with
      | true => edgesOk L r
      | false => false
theorem edgesOk_spec {L : List Nat} : ∀ {l : List Edge}, edgesOk L l = true ↔ ∀ e ∈ l, bindB e = true → e.on ∈ L := by
  intro l
  induction l with
  | nil => simp [edgesOk]
  | cons e l ih =>
    simp only [edgesOk]
    split
    · rename_i h; simp [ih, h]
    · rename_i h
      split
      · rename_i hm; simp [ih, h, memL_spec.1 hm]
      · rename_i hm
        have : ¬ e.on ∈ L := fun hh => by rw [memL_spec.2 hh] at hm; cases hm
        simp [h, this]
def rdyL (L : List Nat) : Nat → List Oper → List Nat
  | _, [] => []
  | i, o :: r => match memL L i with
    | true => rdyL L (i + 1) r
    | false => match edgesOk L o.after.toList with
      | true => i :: rdyL L (i + 1) r
      | false => rdyL L (i + 1) r
theorem rdyL_spec {L : List Nat} : ∀ {l : List Oper} {i j : Nat}, j ∈ rdyL L i l ↔ i ≤ j ∧ j ∉ L ∧ ∃ o, l[j - i]? = some o ∧ edgesOk L o.after.toList = true := by
  intro l
  induction l with
  | nil => intro i j; simp [rdyL]
  | cons o l ih =>
    intro i j
    have step : j ∈ rdyL L (i + 1) l ↔ (i ≤ j ∧ j ≠ i) ∧ j ∉ L ∧ ∃ p, (o :: l)[j - i]? = some p ∧ edgesOk L p.after.toList = true := by
      rw [ih]
      constructor
      · rintro ⟨h1, h2, p, h3, h4⟩
        exact ⟨⟨by omega, by omega⟩, h2, p, by rw [show j - i = (j - (i + 1)) + 1 by omega]; simpa using h3, h4⟩
      · rintro ⟨⟨h1, h1'⟩, h2, p, h3, h4⟩
        exact ⟨by omega, h2, p, by rw [show j - i = (j - (i + 1)) + 1 by omega] at h3; simpa using h3, h4⟩
    simp only [rdyL]
    split
    · rename_i hm
      have hm := memL_spec.1 hm
      rw [step]
      constructor
      · rintro ⟨⟨h1, _⟩, h2⟩; exact ⟨h1, h2⟩
      · rintro ⟨h1, h2, h3⟩; exact ⟨⟨h1, fun e => h2 (e ▸ hm)⟩, h2, h3⟩
    · rename_i hm
      have hm : i ∉ L := fun h => by rw [memL_spec.2 h] at hm; cases hm
      split
      · rename_i he
        rw [List.mem_cons, step]
        constructor
        · rintro (rfl | ⟨⟨h1, _⟩, h2⟩)
          · exact ⟨Nat.le_refl _, hm, o, by simp, he⟩
          · exact ⟨h1, h2⟩
        · rintro ⟨h1, h2⟩
          by_cases e : j = i
          · exact .inl e
          · exact .inr ⟨⟨h1, e⟩, h2⟩
      · rename_i he
        rw [step]
        constructor
        · rintro ⟨⟨h1, _⟩, h2⟩; exact ⟨h1, h2⟩
        · rintro ⟨h1, h2, p, h3, h4⟩
          refine ⟨⟨h1, fun e => ?_⟩, h2, p, h3, h4⟩
          subst e
          simp at h3
          subst h3
          rw [h4] at he; cases he
def listedA (n : Nat) : List Nat → Array Bool
  | [] => Array.replicate n false
  | i :: L => (listedA n L).setIfInBounds i true
theorem listedA_size (n : Nat) (L : List Nat) : (listedA n L).size = n := by
  induction L with
  | nil => simp [listedA]
  | cons i L ih => simp [listedA, ih]
theorem listedA_get {n : Nat} {L : List Nat} {j : Nat} (hj : j < n) : (listedA n L)[j]? = some (decide (j ∈ L)) := by
  induction L with
  | nil => simp [listedA, hj]
  | cons i L ih =>
    simp only [listedA]
    by_cases e : i = j
    · subst e
      rw [Array.getElem?_setIfInBounds_self_of_lt (by rw [listedA_size]; exact hj)]
      simp
    · rw [Array.getElem?_setIfInBounds_ne e, ih]
      simp [Ne.symm e]
theorem ready_rdyL {ops : Array Oper} {L : List Nat} {j : Nat} : j ∈ Region.ready .any ops (listedA ops.size L) ↔ j ∈ rdyL (L.filter (· < ops.size)) 0 ops.toList := by
  rw [mem_ready, rdyL_spec]
  simp only [Nat.zero_le, true_and, Nat.sub_zero, Array.getElem?_toList]
  constructor
  · rintro ⟨h1, o, h2, h3⟩
    have hj : j < ops.size := by
      rcases Nat.lt_or_ge j ops.size with h | h
      · exact h
      · simp [Array.getElem?_eq_none h] at h2
    rw [Array.getD_eq_getD_getElem?, listedA_get hj] at h1
    refine ⟨fun hm => by simp at h1; exact h1 (List.mem_filter.1 hm).1, o, h2, edgesOk_spec.2 fun e he hb => ?_⟩
    have h4 := h3 e (by simpa using he) (by rw [bindB_eq]; exact hb)
    rw [Array.getD_eq_getD_getElem?] at h4
    rcases Nat.lt_or_ge e.on ops.size with h | h
    · rw [listedA_get h] at h4
      simp at h4
      exact List.mem_filter.2 ⟨h4, by simpa using h⟩
    · simp [Array.getElem?_eq_none (show (listedA ops.size L).size ≤ e.on by rw [listedA_size]; exact h)] at h4
  · rintro ⟨h1, o, h2, h3⟩
    have hj : j < ops.size := by
      rcases Nat.lt_or_ge j ops.size with h | h
      · exact h
      · simp [Array.getElem?_eq_none h] at h2
    refine ⟨?_, o, h2, fun e he hb => ?_⟩
    · rw [Array.getD_eq_getD_getElem?, listedA_get hj]
      simp
      intro hm
      exact h1 (List.mem_filter.2 ⟨hm, by simpa using hj⟩)
    · have h4 := edgesOk_spec.1 h3 e (by simpa using he) (by rw [← bindB_eq]; exact hb)
      obtain ⟨h5, h6⟩ := List.mem_filter.1 h4
      rw [Array.getD_eq_getD_getElem?, listedA_get (by simpa using h6)]
      simp [h5]
end Go.Fw
/- Regions that draw their order: the rules. -/
namespace Go.Fw
open Go.RowKit
def hasEdge (o : Oper) (i : Nat) : Bool := o.after.toList.any fun e => bindB e && Nat.beq e.on i
def pairB (ops : Array Oper) (i j : Nat) : Bool :=
  Nat.beq i j || match nthL ops.toList i, nthL ops.toList j with
    | some x, some y => hasEdge y i || hasEdge x j || Oper.apart ops x y
    | _, _ => true
def pairOk (ops : Array Oper) : Bool := (List.range ops.size).all fun i => (List.range ops.size).all fun j => pairB ops i j
theorem pairOk_spec {ops : Array Oper} (h : pairOk ops = true) {i j : Nat} {x y : Oper} (hi : ops[i]? = some x) (hj : ops[j]? = some y) (hne : i ≠ j) : hasEdge y i = true ∨ hasEdge x j = true ∨ Oper.apart ops x y = true := by
  have lt : ∀ {n : Nat} {z : Oper}, ops[n]? = some z → n < ops.size := fun {n z} hz => by
    rcases Nat.lt_or_ge n ops.size with h | h
    · exact h
    · simp [Array.getElem?_eq_none h] at hz
  have h1 := List.all_eq_true.1 h i (List.mem_range.2 (lt hi))
  have h2 := List.all_eq_true.1 h1 j (List.mem_range.2 (lt hj))
  unfold pairB at h2
  rw [nthL_eq, nthL_eq, Array.getElem?_toList, Array.getElem?_toList, hi, hj] at h2
  have hb : Nat.beq i j = false := by
    cases e : Nat.beq i j with
    | true => exact absurd (Nat.eq_of_beq_eq_true e) hne
    | false => rfl
  simp only [hb, Bool.false_or, Bool.or_eq_true, or_assoc] at h2
  exact h2
theorem hasEdge_spec {o : Oper} {i : Nat} (h : hasEdge o i = true) : ∃ e ∈ o.after, bindB e = true ∧ e.on = i := by
  unfold hasEdge at h
  obtain ⟨e, he, h2⟩ := List.any_eq_true.1 h
  simp only [Bool.and_eq_true] at h2
  exact ⟨e, by simpa using he, h2.1, Nat.eq_of_beq_eq_true h2.2⟩
structure SS (H0 : Own) (Xs : Hp) (ρ : Nat → Nat × Nat) (w : World) : Prop where
  heap : ∀ l B, look H0 l = some B → Win w (ρ l) B.cells
  sub : Sub Xs w
/-- A region that draws its order, of which the operations L are done: H0 and Xs stay as they are throughout. -/
structure DPre (ops : Array Oper) (H0 : Own) (Xs : Hp) (L : List Nat) (H : Own) (X : Hp) : Prop where
  sel : Region.noSelect ops = true
  pair : pairOk ops = true
  lt : ∀ i ∈ L, i < ops.size
  nodup : L.Nodup
  own : ∀ l B, look H0 l = some B → look H l = some B
  sub : ∀ b o, Xs b = some o → X b = some o
def WD (cx : Cx) (ops : Array Oper) (k : List It) (H0 : Own) (Xs : Hp) (L : List Nat) (σ : Fm) (H : Own) (nl : Nat) (X : Hp) : Prop :=
  DPre ops H0 Xs L H X → ∀ a w ρ ρ0, (∀ l B, look H0 l = some B → ρ l = ρ0 l) → Ok cx σ H nl X a w ρ →
    wpAnyH cx.P .any ops (post cx.B (kont cx.P cx.B k)) (SS H0 Xs ρ0) (ops.size - L.length) (listedA ops.size L) a w
/-- One operation is carried out next. -/
def SD (cx : Cx) (ops : Array Oper) (k : List It) (H0 : Own) (Xs : Hp) (L : List Nat) (σ : Fm) (H : Own) (nl : Nat) (X : Hp) (i : Nat) : Prop :=
  DPre ops H0 Xs L H X → i ∈ rdyL L 0 ops.toList → ∀ a w ρ ρ0, (∀ l B, look H0 l = some B → ρ l = ρ0 l) → Ok cx σ H nl X a w ρ →
    wpOp cx.P ops (post cx.B (kont cx.P cx.B k)) i (fun a' w' => SS H0 Xs ρ0 w' ∧ wpAnyH cx.P .any ops (post cx.B (kont cx.P cx.B k)) (SS H0 Xs ρ0) (ops.size - (i :: L).length) (listedA ops.size (i :: L)) a' w') a w
section
variable {cx : Cx} {k k' : List It} {σ σ' : Fm} {H H' H0 : Own} {nl nl' : Nat} {X Xs : Hp} {a : Act} {w : World} {ρ ρ0 : Nat → Nat × Nat} {te : Te} {s : SV} {ops : Array Oper} {o : Oper} {rest : List Oper} {L : List Nat} {i : Nat}
theorem DPre.filter (h : DPre ops H0 Xs L H X) : L.filter (· < ops.size) = L := List.filter_eq_self.2 fun i hi => by simpa using h.lt i hi
theorem DPre.ready (h : DPre ops H0 Xs L H X) {j : Nat} : j ∈ Region.ready .any ops (listedA ops.size L) ↔ j ∈ rdyL L 0 ops.toList := by
  rw [ready_rdyL, h.filter]
theorem Ok.ss (hok : Ok cx σ H nl X a w ρ) (hd : DPre ops H0 Xs L H X) (hρ : ∀ l B, look H0 l = some B → ρ l = ρ0 l) : SS H0 Xs ρ0 w :=
  ⟨fun l B hl => by rw [← hρ l B hl]; exact hok.heap (hd.own l B hl), fun b o hb => hok.sub b o (hd.sub b o hb)⟩
theorem rdy_lt {j : Nat} (h : j ∈ rdyL L 0 ops.toList) : j < ops.size ∧ j ∉ L ∧ ∃ o, ops[j]? = some o ∧ edgesOk L o.after.toList = true := by
  obtain ⟨_, h2, o, h3, h4⟩ := rdyL_spec.1 h
  simp only [Nat.sub_zero, Array.getElem?_toList] at h3
  refine ⟨?_, h2, o, h3, h4⟩
  rcases Nat.lt_or_ge j ops.size with h | h
  · exact h
  · simp [Array.getElem?_eq_none h] at h3
theorem len_lt (hd : DPre ops H0 Xs L H X) (h : i ∈ rdyL L 0 ops.toList) : L.length < ops.size := by
  obtain ⟨h1, h2, _⟩ := rdy_lt h
  have hn : (i :: L).Nodup := List.nodup_cons.2 ⟨h2, hd.nodup⟩
  have hsub : (i :: L) ⊆ List.range ops.size := fun j hj => by
    rcases List.mem_cons.1 hj with rfl | hj
    · exact List.mem_range.2 h1
    · exact List.mem_range.2 (hd.lt j hj)
  have := (List.nodup_iff_count.1 hn)
  have h3 := List.Nodup.length_le_of_subset hn hsub
  simp at h3
  omega
theorem DPre.next (hd : DPre ops H0 Xs L H X) (h : i ∈ rdyL L 0 ops.toList) (ho : ∀ l B, look H0 l = some B → look H' l = some B) {X' : Hp} (hx : ∀ b o, Xs b = some o → X' b = some o) : DPre ops H0 Xs (i :: L) H' X' := by
  obtain ⟨h1, h2, _⟩ := rdy_lt h
  exact ⟨hd.sel, hd.pair, fun j hj => by
    rcases List.mem_cons.1 hj with rfl | hj
    · exact h1
    · exact hd.lt j hj, List.nodup_cons.2 ⟨h2, hd.nodup⟩, ho, hx⟩
theorem WD_all (h : ∀ i ∈ rdyL L 0 ops.toList, SD cx ops k H0 Xs L σ H nl X i) (hne : rdyL L 0 ops.toList ≠ []) : WD cx ops k H0 Xs L σ H nl X := by
  intro hd a w ρ ρ0 hρ hok
  obtain ⟨i, hi⟩ := List.exists_mem_of_ne_nil _ hne
  have hlt := len_lt hd hi
  have he : ops.size - L.length = (ops.size - (L.length + 1)) + 1 := by omega
  rw [he]
  refine ⟨fun h0 => ?_, fun j hj => ?_⟩
  · have := hd.ready.2 hi
    rw [h0] at this; cases this
  · have hj' := hd.ready.1 hj
    exact h j hj' hd hj' a w ρ ρ0 hρ hok
theorem WD_1 (hr : rdyL L 0 ops.toList = [i]) (h : SD cx ops k H0 Xs L σ H nl X i) : WD cx ops k H0 Xs L σ H nl X :=
  WD_all (fun j hj => by rw [hr] at hj; obtain rfl := List.mem_singleton.1 hj; exact h) (by rw [hr]; simp)
theorem WD_2 {j : Nat} (hr : rdyL L 0 ops.toList = [i, j]) (h1 : SD cx ops k H0 Xs L σ H nl X i) (h2 : SD cx ops k H0 Xs L σ H nl X j) : WD cx ops k H0 Xs L σ H nl X :=
  WD_all (fun m hm => by
    rw [hr] at hm
    rcases List.mem_cons.1 hm with rfl | hm
    · exact h1
    · obtain rfl := List.mem_singleton.1 hm; exact h2) (by rw [hr]; simp)
theorem WD_3 {j m : Nat} (hr : rdyL L 0 ops.toList = [i, j, m]) (h1 : SD cx ops k H0 Xs L σ H nl X i) (h2 : SD cx ops k H0 Xs L σ H nl X j) (h3 : SD cx ops k H0 Xs L σ H nl X m) : WD cx ops k H0 Xs L σ H nl X :=
  WD_all (fun q hq => by
    rw [hr] at hq
    rcases List.mem_cons.1 hq with rfl | hq
    · exact h1
    · rcases List.mem_cons.1 hq with rfl | hq
      · exact h2
      · obtain rfl := List.mem_singleton.1 hq; exact h3) (by rw [hr]; simp)
theorem WD_done (hr : rdyL L 0 ops.toList = []) (h : W cx k σ H nl X) : WD cx ops k H0 Xs L σ H nl X := by
  intro hd a w ρ ρ0 hρ hok
  refine wpAnyH_done ?_ (h a w ρ hok) _
  apply List.eq_nil_iff_forall_not_mem.2
  intro j hj
  have := hd.ready.1 hj
  rw [hr] at this; cases this
theorem Ok.drew (hok : Ok cx σ H nl X a w ρ) : Ok cx σ H nl X a { w with drawn := w.drawn + 1 } ρ :=
  ⟨hok.size, hok.defers, hok.val, hok.lab, fun l B hl => ⟨(hok.blk l B hl).1, by
    have h2 := (hok.blk l B hl).2
    cases B <;> exact h2⟩, hok.inj, hok.sub, ⟨hok.ev.os, hok.ev.tape, hok.ev.output, Nat.le_succ_of_le hok.ev.drawn, hok.ev.size, hok.ev.keep⟩, hok.dom⟩
/-- A region that draws its order begins. -/
theorem W_draw {id : Nat} (hm : cx.P.follows .mixedOrders = true) (hs : Region.noSelect ops = true) (hp : pairOk ops = true) (h : WD cx ops k H X [] σ H nl X) : W cx (.code (.region id ops true) :: k) σ H nl X := by
  intro a w ρ hok
  refine wp_region_held (S := SS H X ρ) hm ?_
  exact h ⟨hs, hp, (fun _ hi => by cases hi), List.nodup_nil, fun _ _ h => h, fun _ _ h => h⟩ a _ ρ ρ (fun _ _ _ => rfl) hok.drew
/-- An operation that gives its value in whatever world holds what stays: it may be taken at once. -/
theorem WD_take {o : Oper} (hi : nthL ops.toList i = some o) (hg : o.guard = none) (hr : memL (rdyL L 0 ops.toList) i = true) (hv : ∀ a w w2 ρ ρ0, (∀ l B, look H0 l = some B → ρ l = ρ0 l) → Ok cx σ H nl X a w ρ → SS H0 Xs ρ0 w2 → (∀ l B, look H0 l = some B → look H l = some B) → (execOp a.eval o).run cx.P w2 = .ok (.value (s.den ρ)) w2)
    (hb : ∀ a w ρ, Ok cx σ H nl X a w ρ → s.below nl) (hp : putS cx.n o.dst s σ = some σ') (h : WD cx ops k H0 Xs (i :: L) σ' H nl X) : WD cx ops k H0 Xs L σ H nl X := by
  intro hd a w ρ ρ0 hρ hok
  have hri := memL_spec.1 hr
  have hlt := len_lt hd hri
  have he : ops.size - L.length = (ops.size - (i :: L).length) + 1 := by simp; omega
  rw [he]
  obtain ⟨h1, h2, o', h3, h4⟩ := rdy_lt hri
  rw [nthL_eq, Array.getElem?_toList] at hi
  have hQ : ∀ c (a : Act) w, post cx.B (kont cx.P cx.B k) (.panic c) (a.put o.dst (s.den ρ)) w → post cx.B (kont cx.P cx.B k) (.panic c) a w := fun c a w hq => by
    have hq' : (a.put o.dst (s.den ρ)).defers = [] ∧ ∃ X', Sub X' w ∧ Ev cx.X0 cx.w0 w ∧ Dom cx.X0 X' cx.w0 ∧ cx.Q (.panicked c) X' := hq
    rw [Act.put_defers] at hq'
    exact hq'
  refine wpAnyH_first (v := s.den ρ) hi (Region.noSelect_spec hd.sel) hQ _ _ a w ?_ (hd.ready.2 hri) (.inl ⟨by simp [Region.wanted, hg], fun w2 hw2 => hv a w w2 ρ ρ0 hρ hok hw2 hd.own⟩) (hok.ss hd hρ) ?_
  · intro j oj hj hji hun hno
    rcases pairOk_spec hd.pair hi hj (Ne.symm hji) with h5 | h5 | h5
    · obtain ⟨e, he1, he2, he3⟩ := hasEdge_spec h5
      exact absurd he3 (hno e he1 (by rw [bindB_eq]; exact he2))
    · obtain ⟨e, he1, he2, he3⟩ := hasEdge_spec h5
      rw [hi] at h3
      obtain rfl := Option.some.inj h3
      have h6 := edgesOk_spec.1 h4 e (by simpa using he1) he2
      have hjl : j < ops.size := hd.lt j (he3 ▸ h6)
      rw [Array.getD_eq_getD_getElem?, listedA_get hjl] at hun
      simp at hun
      exact absurd (he3 ▸ h6) hun
    · exact h5
  · exact h (hd.next hri hd.own hd.sub) _ w ρ ρ0 hρ (hok.put hp (hb a w ρ hok))
theorem WD_exv (hte : TeOk cx.P te) {o : Oper} (hi : nthL ops.toList i = some o) (hg : o.guard = none) (hr : memL (rdyL L 0 ops.toList) i = true) (hv : exv te σ H0 o.op = some s) (hp : putS cx.n o.dst s σ = some σ')
    (h : WD cx ops k H0 Xs (i :: L) σ' H nl X) : WD cx ops k H0 Xs L σ H nl X := by
  intro hd
  refine WD_take (s := s) hi hg hr (fun a w w2 ρ ρ0 hρ hok hss hown => ?_) (fun a w ρ hok => ?_) hp h hd
  · have hV : OkV σ H0 a w2 ρ := ⟨hok.val, fun l B hl => by rw [hρ l B hl]; exact hss.heap l B hl, fun l b o T cs hl => ((hok.blk l _ (hown l _ hl)).2).1⟩
    exact (exv_sound hte hV hv).1 o rfl
  · have hV : Ok cx σ H0 nl X a w ρ := hok.weaken (fun _ _ e => e) hd.own
    exact exv_below hV hv
/-- The run within a region that draws its order: what can be taken is taken. -/
def gd (te : Te) (n : Nat) (ol : List Oper) (H0 : Own) : Nat → List Nat → List Nat → Fm → List Nat × Fm
  | 0, _, L, σ => (L, σ)
  | _ + 1, [], L, σ => (L, σ)
  | f + 1, i :: is, L, σ => match nthL ol i with
    | some o => match o.guard with
      | none => match exv te σ H0 o.op with
        | some s => match putS n o.dst s σ with
          | some σ' => gd te n ol H0 f (rdyL (i :: L) 0 ol) (i :: L) σ'
          | none => gd te n ol H0 f is L σ
        | none => gd te n ol H0 f is L σ
      | some _ => gd te n ol H0 f is L σ
    | none => gd te n ol H0 f is L σ
theorem gd_sound (hte : TeOk cx.P te) : ∀ (f : Nat) (is L : List Nat) (σ : Fm) (L' : List Nat) (σ' : Fm), gd te cx.n ops.toList H0 f is L σ = (L', σ') → (∀ i ∈ is, i ∈ rdyL L 0 ops.toList) → WD cx ops k H0 Xs L' σ' H nl X → WD cx ops k H0 Xs L σ H nl X := by
  intro f
  induction f with
  | zero => intro is L σ L' σ' h _ hk; simp only [gd, Prod.mk.injEq] at h; obtain ⟨rfl, rfl⟩ := h; exact hk
  | succ f ih =>
    intro is L σ L' σ' h hr hk
    cases is with
    | nil => simp only [gd, Prod.mk.injEq] at h; obtain ⟨rfl, rfl⟩ := h; exact hk
    | cons i is =>
      have hr' : ∀ i ∈ is, i ∈ rdyL L 0 ops.toList := fun j hj => hr j (by simp [hj])
      simp only [gd] at h
      split at h
      · rename_i o ho
        split at h
        · rename_i hg
          split at h
          · rename_i s hs
            split at h
            · rename_i σ2 hp
              exact WD_exv hte ho hg (memL_spec.2 (hr i (by simp))) hs hp (ih _ _ _ _ _ h (fun _ hj => hj) hk)
            · exact ih _ _ _ _ _ h hr' hk
          · exact ih _ _ _ _ _ h hr' hk
        · exact ih _ _ _ _ _ h hr' hk
      · exact ih _ _ _ _ _ h hr' hk
/-- ONE RUN within a region that draws its order: 'refine dx hte rfl ?_'. -/
theorem dx (hte : TeOk cx.P te) {L' : List Nat} (h : gd te cx.n ops.toList H0 400 (rdyL L 0 ops.toList) L σ = (L', σ')) (hk : WD cx ops k H0 Xs L' σ' H nl X) : WD cx ops k H0 Xs L σ H nl X :=
  gd_sound hte _ _ _ _ _ _ h (fun _ hj => hj) hk
theorem SD_call {cal : Operand} {args : Array Operand} {tys : Array TypeId} {dst : Option Tmp} {ty : TypeId} {pos : String} {after : Array Edge} {f : FuncId} {fi ca vs : List Value} {Φ : Value → Hp → Prop}
    (hi : nthL ops.toList i = some { dst := dst, op := .call { callee := .value cal, args := args, argTypes := tys }, type := ty, pos := pos, after := after, guard := none })
    (hc : callee σ cal = some (f, fi, ca)) (ha : evs σ H args.toList = some vs) (hT : Trip cx.P f (fi ++ vs ++ ca).toArray X (Rt Φ))
    (h : ∀ r X', Φ r X' → KX H X X' ∧ (∀ b o, Xs b = some o → X' b = some o) ∧ ∃ σ', putS cx.n dst (.v r) σ = some σ' ∧ WD cx ops k H0 Xs (i :: L) σ' H nl X') : SD cx ops k H0 Xs L σ H nl X i := by
  intro hd hri a w ρ ρ0 hρ hok
  rw [nthL_eq, Array.getElem?_toList] at hi
  have hc' : ev σ cal = some (.v (.func (.func f) ⟨fi⟩ ⟨ca⟩)) := by
    unfold callee at hc
    split at hc
    · rename_i he
      simp only [Option.some.injEq, Prod.mk.injEq] at hc
      obtain ⟨rfl, rfl, rfl⟩ := hc
      exact he
    · cases hc
  have ec := hok.eval hc' trivial
  simp only [SV.den] at ec
  unfold wpOp
  rw [hi]
  simp only [Region.wanted, if_true]
  refine .inl ?_
  unfold Oper.wp
  rw [exec_call rfl ec (evs_eval hok.v ha) hT.1 w]
  refine (hT.2 w hok.sub).mono ?_
  rintro e w' ⟨X', hs, he, hdm, hq⟩
  cases e with
  | returned r =>
    obtain ⟨hck, hxs, σ', hp, hW⟩ := h r X' hq
    have hok' := hok.moved hs he hdm hck
    have hd' := hd.next hri hd.own hxs
    exact ⟨hok'.ss hd' hρ, hW hd' _ _ ρ ρ0 hρ (hok'.put hp trivial)⟩
  | panicked c => exact hq.elim
  | outgrown => exact hq.elim
theorem SD_ex1 (hte : TeOk cx.P te) {o : Oper} (hi : nthL ops.toList i = some o) (hg : o.guard = none) (h : ex1 te σ H nl o.op = some (s, H', nl')) (hp : putS cx.n o.dst s σ = some σ') (hH : WkO H' H0)
    (hk : WD cx ops k H0 Xs (i :: L) σ' H' nl' X) : SD cx ops k H0 Xs L σ H nl X i := by
  intro hd hri a w ρ ρ0 hρ hok
  rw [nthL_eq, Array.getElem?_toList] at hi
  obtain ⟨w', ρ', hag, hr, hc, hb, hok'⟩ := ex1_sound hte hok h
  have hput := hok'.put hp hb
  have hd' : DPre ops H0 Xs (i :: L) H' X := hd.next hri (WkO_spec hH) hd.sub
  have hρ' : ∀ l B, look H0 l = some B → ρ' l = ρ0 l := fun l B hl => by
    rw [hag l (hok.blk l B (hd.own l B hl)).1]; exact hρ l B hl
  unfold wpOp
  rw [hi]
  simp only [Region.wanted, hg, if_true]
  refine .inl ?_
  unfold Oper.wp
  rcases hr o rfl with h1 | ⟨h1, h2⟩
  · rw [h1]; exact ⟨hok'.ss hd' hρ', hk hd' _ _ ρ' ρ0 hρ' hput⟩
  · subst h2; rw [h1]; exact ⟨hok'.ss hd' hρ', hk hd' _ _ ρ' ρ0 hρ' hput⟩
end
end Go.Fw
/- Rows of elements in the partial heap, and the rules for reading and cutting them. -/
namespace Go.Fw
open Go.RowKit
/-- At a lie vs, elements of type E, k cells each. -/
structure Arr (X : Hp) (E : TypeId) (k : Nat) (a : Option Addr) (vs : List (List Value)) : Prop where
  uni : ∀ v ∈ vs, v.length = k
  mem : vs = [] ∨ ∃ b off fz cs, a = some ⟨b, off, none⟩ ∧ X b = some (.cells cs E fz) ∧ ∀ i v, vs[i]? = some v → ∀ j, j < k → cs[off + i * k + j]? = v[j]?
theorem Arr.nil (X : Hp) (E : TypeId) (k : Nat) (a : Option Addr) : Arr X E k a [] := ⟨(fun _ h => by cases h), .inl rfl⟩
theorem Arr.mono {X X' : Hp} {E : TypeId} {k : Nat} {a : Option Addr} {vs : List (List Value)} (h : Arr X E k a vs) (hx : ∀ b cs fz, X b = some (.cells cs E fz) → X' b = some (.cells cs E fz)) : Arr X' E k a vs :=
  ⟨h.uni, h.mem.imp id fun ⟨b, off, fz, cs, h1, h2, h3⟩ => ⟨b, off, fz, cs, h1, hx _ _ _ h2, h3⟩⟩
theorem Arr.ck {X X' : Hp} {E : TypeId} {k : Nat} {a : Option Addr} {vs : List (List Value)} (h : Arr X E k a vs) (hx : CK X X') : Arr X' E k a vs := h.mono fun b cs fz => hx b cs E fz
theorem Arr.flat {X : Hp} {E : TypeId} {k : Nat} {a : Option Addr} {vs : List (List Value)} (h : Arr X E k a vs) (hne : vs ≠ []) :
    ∃ b off fz cs, a = some ⟨b, off, none⟩ ∧ X b = some (.cells cs E fz) ∧ ∀ j, j < vs.flatten.length → cs[off + j]? = vs.flatten[j]? := by
  obtain ⟨hu, hm⟩ := h
  rcases hm with hm | ⟨b, off, fz, cs, h1, h2, h3⟩
  · exact absurd hm hne
  · refine ⟨b, off, fz, cs, h1, h2, ?_⟩
    clear h1 h2 hne
    induction vs generalizing off with
    | nil => intro j hj; simp at hj
    | cons v vs ih =>
      intro j hj
      have hv : v.length = k := hu v (by simp)
      rw [List.flatten_cons]
      rcases Nat.lt_or_ge j k with hjk | hjk
      · rw [List.getElem?_append_left (by omega)]
        have := h3 0 v (by simp) j hjk
        simpa using this
      · rw [List.getElem?_append_right (by omega), hv]
        have := ih (fun u hu' => hu u (List.mem_cons_of_mem _ hu')) (off + k) (fun i u hi m hm => by
          have := h3 (i + 1) u (by simpa using hi) m hm
          rw [show off + k + i * k + m = off + (i + 1) * k + m by rw [Nat.succ_mul]; omega]; exact this) (j - k) (by rw [List.flatten_cons, List.length_append, hv] at hj; omega)
        rw [show off + k + (j - k) = off + j by omega] at this
        exact this
theorem Arr.cut {X : Hp} {E : TypeId} {k : Nat} {a : Option Addr} {vs : List (List Value)} (h : Arr X E k a vs) (l n : Nat) : Arr X E k (a.map (·.add (l * k))) ((vs.drop l).take n) := by
  refine ⟨fun v hv => h.uni v (List.mem_of_mem_drop (List.mem_of_mem_take hv)), ?_⟩
  rcases h.mem with hm | ⟨b, off, fz, cs, h1, h2, h3⟩
  · subst hm; simp
  · refine .inr ⟨b, off + l * k, fz, cs, by rw [h1]; simp [addr_add], h2, fun i v hi j hj => ?_⟩
    rw [List.getElem?_take] at hi
    split at hi
    · rw [List.getElem?_drop] at hi
      have := h3 (l + i) v hi j hj
      rw [show off + l * k + i * k + j = off + (l + i) * k + j by rw [Nat.add_mul]; omega]; exact this
    · cases hi
section
variable {cx : Cx} {k k' : List It} {σ σ' : Fm} {H H' : Own} {nl nl' : Nat} {X : Hp} {a : Act} {w : World} {ρ : Nat → Nat × Nat} {te : Te} {s : SV} {ops : Array Oper} {o : Oper} {rest : List Oper}
/-- An element of a slice of the partial heap: its address, under a label of its own. -/
theorem W_idx (hte : TeOk cx.P te) {T E E' : TypeId} {x y : Operand} {d : Nat} {ty : TypeId} {pos : String} {after : Array Edge} {p : Option Addr} {n c m : Nat} {kk : IntKind} {i : Int} {ti ei : TI} {vs : List (List Value)} {v : List Value}
    (hx : ev σ x = some (.v (.slice p n c))) (hy : ev σ y = some (.v (.int kk i))) (ht : te T = some ti) (hd : ti.desc = .slice E) (he : te E = some ei) (hA : Arr X E' ei.size p vs) (hi : i = m) (hn : m < n) (hv : vs[m]? = some v) (hlt : Nat.blt d cx.n = true)
    (h : ∀ b o, W cx (.rg ops rest :: k) ((d, .p nl 0) :: σ) ((nl, .ext b o E' v) :: H) (nl + 1) X) :
    W cx (.rg ops ({ dst := some d, op := .indexAddr T x y, type := ty, pos := pos, after := after, guard := none } :: rest) :: k) σ H nl X := by
  intro a w ρ hok
  refine run_op rfl ?_
  have ex := hok.eval hx trivial
  have ey := hok.eval hy trivial
  simp only [SV.den] at ex ey
  have hu := run_und w (hte _ _ ht)
  rw [hd] at hu
  have hs := run_size w (hte _ _ he)
  have hvl := hA.uni v (List.mem_of_getElem? hv)
  rcases hA.mem with hm | ⟨b, off, fz, cs, h1, h2, h3⟩
  · subst hm; cases hv
  · subst h1
    subst hi
    have hc : (0 : Int) ≤ (m : Int) ∧ (m : Int) < (n : Int) := by omega
    have hr : (execOp a.eval { dst := some d, op := .indexAddr T x y, type := ty, pos := pos, after := after, guard := none }).run cx.P w = .ok (.value (.pointer (some ⟨b, off + m * ei.size, none⟩))) w := by
      simp [execOp, ex, ey, Instr.indexAt, asIntOf, hu, hs, hn, addr_add]
    unfold Oper.wp
    rw [hr]
    have hok' := hok.extend (b := b) (o := off + m * ei.size) (T := E') (cs := v) h2 (fun j hj => h3 m v hv j (by omega))
    have hp := hok'.put (σ' := (d, .p nl 0) :: σ) (dst := some d) (v := .p nl 0) (by simp only [putS, hlt]) (Nat.lt_succ_self _)
    have e : SV.den (fun l => if l = nl then (b, off + m * ei.size) else ρ l) (.p nl 0) = .pointer (some ⟨b, off + m * ei.size, none⟩) := by simp [SV.den]
    rw [e] at hp
    exact h _ _ _ _ _ hp
theorem sb_run {P : Program} {w : World} {k : IntKind} {i : Int} {y : Nat} {code : BoundsCode} (h0 : 0 ≤ i) (h1 : i ≤ y) : (Instr.sliceBound (.int k i) y code).run P w = .ok i.toNat w := by
  simp [Instr.sliceBound, asIntOf, h0, h1]
/-- The bounds of a slice expression: absent ones are the ends. -/
def bnd (σ : Fm) (o : Option Operand) (dflt : Nat) (i : Nat) : Prop :=
  match o with
  | none => i = dflt
  | some x => ∃ k z, ev σ x = some (.v (.int k z)) ∧ z = (i : Int)
theorem sliceBounds_run (hok : Ok cx σ H nl X a w ρ) {isS : Bool} {len cap l h : Nat} {lo hi : Option Operand} (hh : bnd σ hi len h) (hl : bnd σ lo 0 l) (hlh : l ≤ h) (hhc : h ≤ cap) (hlen : len ≤ cap) (w2 : World) :
    (Instr.sliceBounds isS len cap (lo.map a.eval) (hi.map a.eval) none).run cx.P w2 = .ok (l, h, cap) w2 := by
  have eh : (match hi.map a.eval with | some v => Instr.sliceBound v cap (if isS then .sliceAcap else .sliceAlen) | none => (pure len : Sem Nat)).run cx.P w2 = .ok h w2 := by
    cases hi with
    | none => have e : h = len := hh; subst e; simp
    | some x =>
      obtain ⟨k, z, h1, rfl⟩ := hh
      have ex := hok.eval h1 trivial
      simp only [SV.den] at ex
      simp only [Option.map_some, ex]
      rw [sb_run (by omega) (by omega)]; simp
  have el : (match lo.map a.eval with | some v => Instr.sliceBound v h .sliceB | none => (pure 0 : Sem Nat)).run cx.P w2 = .ok l w2 := by
    cases lo with
    | none => have e : l = 0 := hl; subst e; simp
    | some x =>
      obtain ⟨k, z, h1, rfl⟩ := hl
      have ex := hok.eval h1 trivial
      simp only [SV.den] at ex
      simp only [Option.map_some, ex]
      rw [sb_run (by omega) (by omega)]; simp
  unfold Instr.sliceBounds
  cases hi with
  | none =>
    have e : h = len := hh
    subst e
    cases lo with
    | none => have e : l = 0 := hl; subst e; simp
    | some x => simp only [Option.map_some] at el; simp [el]
  | some y =>
    simp only [Option.map_some] at eh
    cases lo with
    | none => have e : l = 0 := hl; subst e; simp [eh]
    | some x => simp only [Option.map_some] at el; simp [eh, el]
/-- A slice is cut. -/
theorem W_cut (hte : TeOk cx.P te) {T E : TypeId} {x : Operand} {lo hi : Option Operand} {dst : Option Tmp} {ty : TypeId} {pos : String} {after : Array Edge} {p : Option Addr} {n c l h : Nat} {ti ei : TI} {vs : List (List Value)}
    (hx : ev σ x = some (.v (.slice p n c))) (ht : te T = some ti) (hd : ti.desc = .slice E) (he : te E = some ei) (hA : Arr X E ei.size p vs) (hn : n = vs.length) (hnc : n ≤ c) (hl : bnd σ lo 0 l) (hh : bnd σ hi n h) (hlh : l ≤ h) (hhn : h ≤ n)
    (hk : ∀ q c', Arr X E ei.size q ((vs.drop l).take (h - l)) → h - l ≤ c' → (q = (if c = l then p else p.map (·.add (l * ei.size))) ∧ c' = c - l) → ∃ σ', putS cx.n dst (.v (.slice q (h - l) c')) σ = some σ' ∧ W cx (.rg ops rest :: k) σ' H nl X) :
    W cx (.rg ops ({ dst := dst, op := .slice T x lo hi none, type := ty, pos := pos, after := after, guard := none } :: rest) :: k) σ H nl X := by
  intro a w ρ hok
  refine run_op rfl ?_
  have ex := hok.eval hx trivial
  simp only [SV.den] at ex
  have hu := run_und w (hte _ _ ht)
  rw [hd] at hu
  have hs := run_size w (hte _ _ he)
  have hb := sliceBounds_run hok (isS := true) hh hl hlh (by omega : h ≤ c) hnc w
  have hr : (execOp a.eval { dst := dst, op := .slice T x lo hi none, type := ty, pos := pos, after := after, guard := none }).run cx.P w = .ok (.value (.slice (if c = l then p else p.map (·.add (l * ei.size))) (h - l) (c - l))) w := by
    simp [execOp, ex, Instr.sliceAt, Instr.slice, hu, hb, hs]
  unfold Oper.wp
  rw [hr]
  by_cases hcl : c = l
  · have hnil : (vs.drop l).take (h - l) = [] := by
      have : h - l = 0 := by omega
      rw [this]; simp
    obtain ⟨σ', hp, hW⟩ := hk p (c - l) (by rw [hnil]; exact Arr.nil _ _ _ _) (by omega) ⟨by rw [if_pos hcl], rfl⟩
    rw [if_pos hcl]
    exact hW _ w ρ (hok.put hp trivial)
  · obtain ⟨σ', hp, hW⟩ := hk _ (c - l) (hA.cut l (h - l)) (by omega) ⟨by rw [if_neg hcl], rfl⟩
    rw [if_neg hcl]
    exact hW _ w ρ (hok.put hp trivial)
/-- A text is cut. -/
theorem W_cutS (hte : TeOk cx.P te) {T : TypeId} {x : Operand} {lo hi : Option Operand} {dst : Option Tmp} {ty : TypeId} {pos : String} {after : Array Edge} {t : ByteArray} {l h : Nat} {ti : TI}
    (hx : ev σ x = some (.v (.string t))) (ht : te T = some ti) (hd : ti.desc = .string) (hl : bnd σ lo 0 l) (hh : bnd σ hi t.size h) (hlh : l ≤ h) (hhn : h ≤ t.size)
    (hp : putS cx.n dst (.v (.string (t.extract l h))) σ = some σ') (hk : W cx (.rg ops rest :: k) σ' H nl X) :
    W cx (.rg ops ({ dst := dst, op := .slice T x lo hi none, type := ty, pos := pos, after := after, guard := none } :: rest) :: k) σ H nl X := by
  refine W_val (s := .v (.string (t.extract l h))) (fun a w ρ hok => ⟨?_, trivial⟩) hp hk
  have ex := hok.eval hx trivial
  simp only [SV.den] at ex
  have hu := run_und w (hte _ _ ht)
  rw [hd] at hu
  have hb := sliceBounds_run hok (isS := false) hh hl hlh hhn (Nat.le_refl _) w
  simp [execOp, ex, Instr.sliceAt, Instr.slice, hu, hb, SV.den]
/-- A byte of a text. -/
theorem W_byte (hte : TeOk cx.P te) {T : TypeId} {x y : Operand} {dst : Option Tmp} {ty : TypeId} {pos : String} {after : Array Edge} {t : ByteArray} {m : Nat} {kk : IntKind} {i : Int} {ti : TI} {b : UInt8}
    (hx : ev σ x = some (.v (.string t))) (hy : ev σ y = some (.v (.int kk i))) (ht : te T = some ti) (hd : ti.desc = .string) (hi : i = m) (hm : t[m]? = some b)
    (hp : putS cx.n dst (.v (.int .u8 b.toNat)) σ = some σ') (hk : W cx (.rg ops rest :: k) σ' H nl X) :
    W cx (.rg ops ({ dst := dst, op := .index T x y, type := ty, pos := pos, after := after, guard := none } :: rest) :: k) σ H nl X := by
  refine W_val (s := .v (.int .u8 b.toNat)) (fun a w ρ hok => ⟨?_, trivial⟩) hp hk
  have ex := hok.eval hx trivial
  have ey := hok.eval hy trivial
  simp only [SV.den] at ex ey
  have hu := run_und w (hte _ _ ht)
  rw [hd] at hu
  subst hi
  have hc : (0 : Int) ≤ (m : Int) := by omega
  simp [execOp, ex, ey, Instr.index, asIntOf, hu, hm, SV.den]
/-- Two texts, one behind the other. -/
theorem W_cat {T U : TypeId} {x y : Operand} {dst : Option Tmp} {ty : TypeId} {pos : String} {after : Array Edge} {p q : ByteArray}
    (hx : ev σ x = some (.v (.string p))) (hy : ev σ y = some (.v (.string q))) (hsz : p.size + q.size ≤ 9223372036854775807)
    (hp : putS cx.n dst (.v (.string (p ++ q))) σ = some σ') (hk : W cx (.rg ops rest :: k) σ' H nl X) :
    W cx (.rg ops ({ dst := dst, op := .binOp .add T x y U, type := ty, pos := pos, after := after, guard := none } :: rest) :: k) σ H nl X := by
  refine W_val (s := .v (.string (p ++ q))) (fun a w ρ hok => ⟨?_, trivial⟩) hp hk
  have ex := hok.eval hx trivial
  have ey := hok.eval hy trivial
  simp only [SV.den] at ex ey
  have hno : ¬ (((p.size + q.size : Nat) : Int) > IntKind.i64.max) := by
    have : IntKind.i64.max = 9223372036854775807 := by decide
    omega
  have : (binOp .add T (.string p) (.string q)).run cx.P w = .ok (.string (p ++ q)) w := by
    simp only [binOp, Op.stringOp]
    rw [if_neg hno]; rfl
  simp only [execOp, ex, ey, SV.den, Sem.run_bind]
  simp [eqGuard, this]
end
end Go.Fw
