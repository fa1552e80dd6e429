import Derived.Test.YtdpfakplphlbgaaGreatDoorMb
import Derived.Laws.BytesString
import Derived.Lib.ConvBytes
/- Tables of types as trees; loops whose changing part alone is told; shifts, new slices of zeros, copies, texts of bytes and bytes of texts. -/
namespace Go.Fw
open Go.RowKit

/-! ## tables of types -/
def Te.no : Te := fun _ => none
def Te.lf (k : Nat) (i : TI) : Te := fun t => match Nat.beq t k with
  | true => some i
  | false => none
def Te.nd (k : Nat) (l r : Te) : Te := fun t => match Nat.blt t k with
  | true => l t
  | false => r t
theorem TeOk.no (P : Program) : TeOk P Te.no := fun _ _ h => by cases h
theorem TeOk.lf {P : Program} {k : Nat} {i : TI} (h : i.Fits P k) : TeOk P (Te.lf k i) := fun t j e => by
  unfold Te.lf at e
  split at e
  · rename_i hb
    obtain rfl := Option.some.inj e
    rw [Nat.eq_of_beq_eq_true hb]; exact h
  · cases e
theorem TeOk.nd {P : Program} {k : Nat} {l r : Te} (hl : TeOk P l) (hr : TeOk P r) : TeOk P (Te.nd k l r) := fun t j e => by
  unfold Te.nd at e
  split at e
  · exact hl t j e
  · exact hr t j e
theorem TI.Fits.of {P : Program} {t : TypeId} {i : TI} {T : TypeInfo} (h : P.types[t]? = some T) (hu : P.underlying t = some i.desc) (hs : T.size = i.size) (hb : T.bytes = i.bytes) (hz : T.zero = i.zero)
    (ha : (match i.desc with | .struct _ | .array _ _ => true | _ => false) = i.agg) (hf : ∀ fs, i.desc = .struct fs → fs.toList.map (fun f => (f.offset, f.type)) = i.flds) : i.Fits P t :=
  ⟨⟨T, by
    have hlt : t < P.types.size := by
      rcases Nat.lt_or_ge t P.types.size with h' | h'
      · exact h'
      · simp [Array.getElem?_eq_none h'] at h
    simp only [Tables.info?]; rw [if_pos hlt]; exact h, hs, hb, hz⟩, hu, ha, hf⟩

/-! ## loops: what changes is told, the rest of the frame stays -/
structure Bx (α : Type) where
  v : α
def bx2 {α : Type} : List α → List α → Bx (List α)
  | [], acc => ⟨acc⟩
  | x :: r, acc => bx2 r (x :: acc)
def bx1 {α : Type} : List α → List α → Bx (List α)
  | [], acc => bx2 acc []
  | x :: r, acc => bx1 r (x :: acc)
/-- A list, written out. -/
def bx {α : Type} (l : List α) : Bx (List α) := bx1 l []
theorem bx2_eq {α : Type} : ∀ (l acc : List α), bx2 l acc = ⟨l.reverse ++ acc⟩ := by
  intro l
  induction l with
  | nil => intro acc; rfl
  | cons x l ih => intro acc; simp [bx2, ih]
theorem bx1_eq {α : Type} : ∀ (l acc : List α), bx1 l acc = ⟨acc.reverse ++ l⟩ := by
  intro l
  induction l with
  | nil => intro acc; simp [bx1, bx2_eq]
  | cons x l ih => intro acc; simp [bx1, ih]
theorem bx_eq {α : Type} (l : List α) : bx l = ⟨l⟩ := by simp [bx, bx1_eq]
def memN (t : Nat) : List Nat → Bool
  | [] => false
  | x :: r => match Nat.beq t x with
    | true => true
    | false => memN t r
/-- A frame, but for some slots, each slot once. -/
def cutA {α : Type} (ts : List Nat) : List (Nat × α) → List (Nat × α) → List (Nat × α)
  | [], acc => acc
  | (t, s) :: r, acc => match memN t ts with
    | true => cutA ts r acc
    | false => cutA (t :: ts) r ((t, s) :: acc)
theorem memN_spec {t : Nat} : ∀ {l : List Nat}, memN t l = true ↔ t ∈ l := by
  intro l
  induction l with
  | nil => simp [memN]
  | cons x r ih =>
    simp only [memN]
    split
    · rename_i h; simp [Nat.eq_of_beq_eq_true h]
    · rename_i h
      have : t ≠ x := beq_false_ne h
      simp [ih, this]
theorem look_snoc_none {α : Type} : ∀ {l : List (Nat × α)} {m : List (Nat × α)} {t : Nat}, look l t = none → look (l ++ m) t = look m t := by
  intro l
  induction l with
  | nil => intro m t _; rfl
  | cons p l ih =>
    intro m t h
    obtain ⟨i, v⟩ := p
    simp only [look, List.cons_append] at h ⊢
    split
    · rename_i e; rw [e] at h; cases h
    · rename_i e; rw [e] at h; exact ih h
theorem cutA_look {α : Type} {t : Nat} {s : α} : ∀ {σ : List (Nat × α)} {ts : List Nat} {acc : List (Nat × α)} {σ0 : List (Nat × α)}, (∀ u, u ∉ ts → look σ0 u = look σ u) → (∀ u v, look acc u = some v → look σ0 u = some v ) → (∀ u, u ∉ ts → look acc u = none) →
    look (cutA ts σ acc) t = some s → look σ0 t = some s := by
  intro σ
  induction σ with
  | nil => intro ts acc σ0 _ h2 _ h; exact h2 _ _ h
  | cons p σ ih =>
    intro ts acc σ0 h1 h2 h3 h
    obtain ⟨i, v⟩ := p
    simp only [cutA] at h
    split at h
    · rename_i e
      have hi := memN_spec.1 e
      refine ih (fun u hu => ?_) h2 h3 h
      rw [h1 u hu, look_cons_ne]
      intro e'; subst e'; exact hu hi
    · rename_i e
      have hi : i ∉ ts := fun h' => by rw [memN_spec.2 h'] at e; cases e
      refine ih (ts := i :: ts) (acc := (i, v) :: acc) (fun u hu => ?_) (fun u x hx => ?_) (fun u hu => ?_) h
      · simp only [List.mem_cons, not_or] at hu
        rw [h1 u hu.2, look_cons_ne _ _ (Ne.symm hu.1)]
      · by_cases e' : i = u
        · subst e'
          rw [look_cons_self] at hx
          rw [h1 i hi, look_cons_self]; exact hx
        · rw [look_cons_ne _ _ e'] at hx; exact h2 u x hx
      · simp only [List.mem_cons, not_or] at hu
        rw [look_cons_ne _ _ (Ne.symm hu.1)]; exact h3 u hu.2
def app {α : Type} : List α → List α → List α
  | [], m => m
  | x :: l, m => x :: app l m
def belowB (n : Nat) : SV → Bool
  | .v _ => true
  | .p l _ => Nat.blt l n
  | .sl l _ _ _ => Nat.blt l n
  | .sy l _ _ _ => Nat.blt l n
  | .g _ _ _ => true
  | .gp _ _ l _ => Nat.blt l n
theorem belowB_spec {n : Nat} {s : SV} (h : belowB n s = true) : s.below n := by
  cases s <;> simp only [belowB, SV.below] at h ⊢ <;> exact Nat.le_of_ble_eq_true h
theorem Wk_app {σ τ : Fm} : ∀ {ov : Fm}, Wk σ ov → (∀ t s, look τ t = some s → look σ t = some s) → ∀ t s, look (app ov τ) t = some s → look σ t = some s := by
  intro ov
  induction ov with
  | nil => intro _ h; exact h
  | cons p ov ih =>
    intro h hτ t s hs
    obtain ⟨i, v⟩ := p
    simp only [app, look] at hs
    split at hs
    · rename_i e
      obtain rfl := Option.some.inj hs
      rw [← Nat.eq_of_beq_eq_true e]; exact h.1
    · exact ih h.2 hτ t s hs
theorem WkO_app {H G : Own} : ∀ {hv : Own}, WkO H hv → (∀ t s, look G t = some s → look H t = some s) → ∀ t s, look (app hv G) t = some s → look H t = some s := by
  intro hv
  induction hv with
  | nil => intro _ h; exact h
  | cons p hv ih =>
    intro h hτ t s hs
    obtain ⟨i, v⟩ := p
    simp only [app, look] at hs
    split at hs
    · rename_i e
      obtain rfl := Option.some.inj hs
      rw [← Nat.eq_of_beq_eq_true e]; exact h.1
    · exact ih h.2 hτ t s hs
section
variable {cx : Cx} {k k' : List It} {σ σ' : Fm} {H H' : Own} {nl nl' : Nat} {X : Hp} {a : Act} {w : World} {ρ : Nat → Nat × Nat} {te : Te} {s : SV} {ops : Array Oper} {o : Oper} {rest : List Oper}
theorem W_weak' {τ : Fm} {G : Own} (hs : ∀ t v, look τ t = some v → look σ t = some v) (ho : ∀ l c, look G l = some c → look H l = some c) (h : W cx k τ G nl X) : W cx k σ H nl X :=
  fun a w ρ hok => h a w ρ (hok.weaken hs ho)
/-- A slot's value, told otherwise. -/
theorem W_is (t : Nat) {v v' : Value} (ht : look σ t = some (.v v')) (e : v' = v) (h : W cx k ((t, .v v) :: σ) H nl X) : W cx k σ H nl X := by
  subst e
  exact fun a w ρ hok => h a w ρ (hok.nameX ht trivial rfl trivial)
theorem W_int (t : Nat) {k1 : IntKind} {v v' : Int} (ht : look σ t = some (.v (.int k1 v'))) (e : v' = v) (h : W cx k ((t, .v (.int k1 v)) :: σ) H nl X) : W cx k σ H nl X :=
  W_is t ht (by rw [e]) h
theorem W_boo (t : Nat) {v v' : Bool} (ht : look σ t = some (.v (.bool v'))) (e : v' = v) (h : W cx k ((t, .v (.bool v)) :: σ) H nl X) : W cx k σ H nl X :=
  W_is t ht (by rw [e]) h
theorem W_loopF {ι : Type} (I : ι → Prop) (μ : ι → Nat) (σf : ι → Fm) (Hf : ι → Own) (Xf : ι → Hp) {c : Code} (i0 : ι) (h0 : I i0) (hs : ∀ t v, look (σf i0) t = some v → look σ t = some v) (ho : ∀ l c, look (Hf i0) l = some c → look H l = some c) (hX : X = Xf i0)
    (round : ∀ i, I i → W cx (.code c :: .fin (Head cx I μ (μ i) σf Hf nl Xf) :: k) (σf i) (Hf i) nl (Xf i)) : W cx (.code (.loop c) :: k) σ H nl X := by
  intro a w ρ hok
  subst hX
  have hok' := hok.weaken hs ho
  refine wp_loop_ghost (fun m a w => ∃ i ρ, I i ∧ μ i = m ∧ Ok cx (σf i) (Hf i) nl (Xf i) a w ρ) (μ i0) ⟨i0, ρ, h0, rfl, hok'⟩ ?_
  rintro m a w ⟨i, ρ, hI, rfl, hi⟩
  refine wp_mono (round i hI a w ρ hi) ?_
  intro e a' w' hq
  cases e with
  | normal =>
    obtain ⟨i', ρ', h1, h2, h3⟩ := hq
    exact ⟨μ i', h2, i', ρ', h1, rfl, h3⟩
  | exit id => exact hq
  | goto l => exact hq
  | ret => exact hq
  | panic ch => exact hq
  | outgrown => exact hq
/-- A loop: 'ov' tells the slots that change (their numbers are in ts), 'hv' the blocks that change (labels ls). -/
theorem W_for {ι : Type} (I : ι → Prop) (μ : ι → Nat) (ts : List Nat) (ov : ι → Fm) (ls : List Nat) (hv : ι → Own) (Xf : ι → Hp) {c : Code} {τ : Fm} {G : Own} (i0 : ι) (h0 : I i0) (hs : Wk σ (ov i0)) (ho : WkO H (hv i0)) (hX : X = Xf i0)
    (hτ : bx (cutA ts σ []) = ⟨τ⟩) (hG : bx (cutA ls H []) = ⟨G⟩)
    (round : ∀ i, I i → W cx (.code c :: .fin (Head cx I μ (μ i) (fun i => app (ov i) τ) (fun i => app (hv i) G) nl Xf) :: k) (app (ov i) τ) (app (hv i) G) nl (Xf i)) : W cx (.code (.loop c) :: k) σ H nl X := by
  rw [bx_eq] at hτ hG
  have e1 : τ = cutA ts σ [] := by injection hτ with h; exact h.symm
  have e2 : G = cutA ls H [] := by injection hG with h; exact h.symm
  have h1 : ∀ t s, look τ t = some s → look σ t = some s := fun t s h => by
    rw [e1] at h; exact cutA_look (fun _ _ => rfl) (fun u v e => by cases e) (fun _ _ => rfl) h
  have h2 : ∀ t s, look G t = some s → look H t = some s := fun t s h => by
    rw [e2] at h; exact cutA_look (fun _ _ => rfl) (fun u v e => by cases e) (fun _ _ => rfl) h
  refine W_weak' (Wk_app hs h1) (WkO_app ho h2) ?_
  refine W_loopF I μ (fun i => app (ov i) τ) (fun i => app (hv i) G) Xf i0 h0 (fun _ _ h => h) (fun _ _ h => h) hX round
def labB (n : Nat) : Fm → Bool
  | [] => true
  | (_, s) :: r => match belowB n s with
    | true => labB n r
    | false => false
theorem labB_spec {n : Nat} : ∀ {τ : Fm}, labB n τ = true → LabS n τ := by
  intro τ
  induction τ with
  | nil => intro _; trivial
  | cons p τ ih =>
    intro h
    obtain ⟨t, s⟩ := p
    simp only [labB] at h
    split at h
    · rename_i e; exact ⟨belowB_spec e, ih h⟩
    · cases h
def labOB (n : Nat) : Own → Bool
  | [] => true
  | (l, _) :: r => match Nat.blt l n with
    | true => labOB n r
    | false => false
theorem labOB_spec {n : Nat} : ∀ {τ : Own}, labOB n τ = true → LabO n τ := by
  intro τ
  induction τ with
  | nil => intro _; trivial
  | cons p τ ih =>
    intro h
    obtain ⟨t, s⟩ := p
    simp only [labOB] at h
    split at h
    · rename_i e; exact ⟨Nat.le_of_ble_eq_true e, ih h⟩
    · cases h
/-- The end of a round of 'W_for'. -/
theorem W_again {ι : Type} {I : ι → Prop} {μ : ι → Nat} {m n0 : Nat} {ov : ι → Fm} {hv : ι → Own} {τ : Fm} {G : Own} {Xf : ι → Hp} (i : ι) (hI : I i) (hm : μ i < m) (hov : Wk σ (ov i)) (hτ : Wk σ τ) (hhv : WkO H (hv i)) (hG : WkO H G) (hX : X = Xf i)
    (hl : labB n0 (app (ov i) τ) = true) (hg : labOB n0 (app (hv i) G) = true) :
    W cx (.fin (Head cx I μ m (fun i => app (ov i) τ) (fun i => app (hv i) G) n0 Xf) :: k) σ H nl X := fun a w ρ hok => by
  subst hX
  exact ⟨i, ρ, hI, hm, (hok.weaken (Wk_app hov (Wk_spec hτ)) (WkO_app hhv (WkO_spec hG))).relab (labB_spec hl) (labOB_spec hg)⟩
end
end Go.Fw
/- Shifts and divisions, new slices of zeros, copies, texts of bytes and bytes of texts. -/
namespace Go.Fw
open Go.RowKit
section
variable {cx : Cx} {k k' : List It} {σ σ' : Fm} {H H' : Own} {nl nl' : Nat} {X : Hp} {a : Act} {w : World} {ρ : Nat → Nat × Nat} {te : Te} {s : SV} {ops : Array Oper} {o : Oper} {rest : List Oper}
theorem W_shr {T U : TypeId} {x y : Operand} {dst : Option Tmp} {ty : TypeId} {pos : String} {after : Array Edge} {kk jj : IntKind} {m n : Int}
    (hx : ev σ x = some (.v (.int kk m))) (hy : ev σ y = some (.v (.int jj n))) (hn : 0 ≤ n)
    (hp : putS cx.n dst (.v (.int kk (m.fdiv (2 ^ (min n.toNat kk.bits))))) σ = some σ') (hk : W cx (.rg ops rest :: k) σ' H nl X) :
    W cx (.rg ops ({ dst := dst, op := .binOp .shr T x y U, type := ty, pos := pos, after := after, guard := none } :: rest) :: k) σ H nl X := by
  refine W_val (fun a w ρ hok => ?_) hp hk
  have ex := hok.eval hx trivial
  have ey := hok.eval hy trivial
  simp only [SV.den] at ex ey
  refine ⟨?_, trivial⟩
  have : ¬ n < 0 := by omega
  simp [execOp, ex, ey, eqGuard, binOp, Op.shift, this, SV.den]
theorem W_shl {T U : TypeId} {x y : Operand} {dst : Option Tmp} {ty : TypeId} {pos : String} {after : Array Edge} {kk jj : IntKind} {m n : Int}
    (hx : ev σ x = some (.v (.int kk m))) (hy : ev σ y = some (.v (.int jj n))) (hn : 0 ≤ n)
    (hp : putS cx.n dst (.v (.int kk (kk.wrap (m * 2 ^ (min n.toNat kk.bits))))) σ = some σ') (hk : W cx (.rg ops rest :: k) σ' H nl X) :
    W cx (.rg ops ({ dst := dst, op := .binOp .shl T x y U, type := ty, pos := pos, after := after, guard := none } :: rest) :: k) σ H nl X := by
  refine W_val (fun a w ρ hok => ?_) hp hk
  have ex := hok.eval hx trivial
  have ey := hok.eval hy trivial
  simp only [SV.den] at ex ey
  refine ⟨?_, trivial⟩
  have : ¬ n < 0 := by omega
  simp [execOp, ex, ey, eqGuard, binOp, Op.shift, this, SV.den]
theorem W_quo {T U : TypeId} {x y : Operand} {dst : Option Tmp} {ty : TypeId} {pos : String} {after : Array Edge} {kk : IntKind} {m n : Int}
    (hx : ev σ x = some (.v (.int kk m))) (hy : ev σ y = some (.v (.int kk n))) (hn : n ≠ 0)
    (hp : putS cx.n dst (.v (.int kk (kk.wrap (m.tdiv n)))) σ = some σ') (hk : W cx (.rg ops rest :: k) σ' H nl X) :
    W cx (.rg ops ({ dst := dst, op := .binOp .quo T x y U, type := ty, pos := pos, after := after, guard := none } :: rest) :: k) σ H nl X := by
  refine W_val (fun a w ρ hok => ?_) hp hk
  have ex := hok.eval hx trivial
  have ey := hok.eval hy trivial
  simp only [SV.den] at ex ey
  refine ⟨?_, trivial⟩
  simp [execOp, ex, ey, eqGuard, binOp, Op.intDiv, hn, SV.den]
theorem W_rem {T U : TypeId} {x y : Operand} {dst : Option Tmp} {ty : TypeId} {pos : String} {after : Array Edge} {kk : IntKind} {m n : Int}
    (hx : ev σ x = some (.v (.int kk m))) (hy : ev σ y = some (.v (.int kk n))) (hn : n ≠ 0)
    (hp : putS cx.n dst (.v (.int kk (m.tmod n))) σ = some σ') (hk : W cx (.rg ops rest :: k) σ' H nl X) :
    W cx (.rg ops ({ dst := dst, op := .binOp .rem T x y U, type := ty, pos := pos, after := after, guard := none } :: rest) :: k) σ H nl X := by
  refine W_val (fun a w ρ hok => ?_) hp hk
  have ex := hok.eval hx trivial
  have ey := hok.eval hy trivial
  simp only [SV.den] at ex ey
  refine ⟨?_, trivial⟩
  simp [execOp, ex, ey, eqGuard, binOp, Op.intDiv, hn, SV.den]

/-- Of the world the heap, and what is not of the program, alone matter. -/
theorem Ok.world {w' w2 : World} (hok : Ok cx σ H nl X a w2 ρ) (hh : w'.heap = w2.heap) (ho : w'.os = w2.os) (ht : w'.tape = w2.tape) (hu : w'.output = w2.output) (hd : w2.drawn ≤ w'.drawn) : Ok cx σ H nl X a w' ρ :=
  ⟨hok.size, hok.defers, hok.val, hok.lab, fun l B hl => ⟨(hok.blk l B hl).1, by
    have h2 := (hok.blk l B hl).2
    cases B with
    | own T cs => exact ⟨h2.1, by rw [hh]; exact h2.2.1, h2.2.2⟩
    | bor b T cs => exact ⟨h2.1, by rw [hh]; exact h2.2.1, h2.2.2⟩
    | ext b o T cs => exact h2⟩, hok.inj, fun b p h => by rw [hh]; exact hok.sub b p h,
    ⟨ho.trans hok.ev.os, ht.trans hok.ev.tape, hu.trans hok.ev.output, Nat.le_trans hok.ev.drawn hd, by rw [hh]; exact hok.ev.size, fun b p h1 h2 => by rw [hh]; exact hok.ev.keep b p h1 h2⟩, hok.dom⟩

/-! ## texts and bytes -/
/-- Bytes as the cells of a row. -/
def bcells (t : List UInt8) : List (List Value) := t.map fun b => [.int .u8 b.toNat]
theorem bcells_length (t : List UInt8) : (bcells t).length = t.length := by simp [bcells]
theorem bcells_flat (t : List UInt8) : (bcells t).flatten = t.map fun b => .int .u8 b.toNat := by
  induction t with
  | nil => rfl
  | cons b t ih => simp [bcells] at ih ⊢; exact ih
theorem foldl_push : ∀ (t : List UInt8) (s : ByteArray), (t.map (fun b => (b.toNat : Int))).foldl (fun r n => r.push (UInt8.ofNat n.toNat)) s = ⟨s.data ++ t.toArray⟩ := by
  intro t
  induction t with
  | nil => intro s; simp
  | cons b t ih =>
    intro s
    simp only [List.map_cons, List.foldl_cons, ih]
    congr 1
    simp [ByteArray.push]
theorem W_b2s (hte : TeOk cx.P te) {T S U : TypeId} {x : Operand} {dst : Option Tmp} {ty : TypeId} {pos : String} {after : Array Edge} {p : Option Addr} {n c : Nat} {ti ei si : TI} {t : List UInt8}
    (hx : ev σ x = some (.v (.slice p n c))) (ht : te T = some ti) (hd : ti.desc = .slice U) (he : te U = some ei) (hed : ei.desc = .int .u8) (hs : te S = some si) (hsd : si.desc = .string) (hA : Arr X U 1 p (bcells t)) (hn : n = t.length)
    (hp : putS cx.n dst (.v (.string ⟨t.toArray⟩)) σ = some σ') (hk : W cx (.rg ops rest :: k) σ' H nl X) :
    W cx (.rg ops ({ dst := dst, op := .convert T S x, type := ty, pos := pos, after := after, guard := none } :: rest) :: k) σ H nl X := by
  refine W_val (fun a w ρ hok => ?_) hp hk
  have ex := hok.eval hx trivial
  simp only [SV.den] at ex
  refine ⟨?_, trivial⟩
  have h1 := (hte _ _ ht).und
  rw [hd] at h1
  have h2 := (hte _ _ he).und
  rw [hed] at h2
  have h3 := (hte _ _ hs).und
  rw [hsd] at h3
  have hc := run_convert_bytes_string w T S U p n c h1 h2 h3
  obtain ⟨hlen, hnews, _⟩ := Src.row (y := x) hx hA (by rw [bcells_length]; exact hn) a w ρ hok
  rw [ex] at hnews
  rw [bcells_flat] at hnews
  have hb : (Conv.bytesToString (.slice p n c)).run cx.P w = .ok (.string ⟨t.toArray⟩) w := by
    cases p with
    | none =>
      simp only [Builtin.firstCells, Sem.run_pure] at hnews
      injection hnews with h4 _
      have : t = [] := by
        have := congrArg Array.size h4
        simp at this
        exact List.eq_nil_of_length_eq_zero this.symm
      subst this
      simp [Conv.bytesToString]; rfl
    | some q =>
      simp only [Builtin.firstCells, Nat.mul_one] at hnews
      have := run_bytesToString (P := cx.P) w q n c (t.map fun b => (b.toNat : Int)) (by rw [hnews]; simp)
      rw [this, foldl_push]
      simp
  simp [execOp, ex, hc, hb, SV.den]
/-- Bytes of a text: a new row that is only read. -/
theorem W_s2b (hte : TeOk cx.P te) {T S U : TypeId} {x : Operand} {dst : Option Tmp} {ty : TypeId} {pos : String} {after : Array Edge} {ti ei si : TI} {t : ByteArray}
    (hx : ev σ x = some (.v (.string t))) (hs : te S = some si) (hsd : si.desc = .string) (ht : te T = some ti) (hd : ti.desc = .slice U) (he : te U = some ei) (hed : ei.desc = .int .u8)
    (hk : ∀ p c X', Le X X' → Arr X' U 1 p (bcells t.data.toList) → t.data.toList.length ≤ c → ∃ σ', putS cx.n dst (.v (.slice p t.data.toList.length c)) σ = some σ' ∧ W cx (.rg ops rest :: k) σ' H nl X') :
    W cx (.rg ops ({ dst := dst, op := .convert S T x, type := ty, pos := pos, after := after, guard := none } :: rest) :: k) σ H nl X := by
  intro a w ρ hok
  refine run_op rfl ?_
  have ex := hok.eval hx trivial
  simp only [SV.den] at ex
  have h1 := (hte _ _ ht).und
  rw [hd] at h1
  have h2 := (hte _ _ he).und
  rw [hed] at h2
  have h3 := (hte _ _ hs).und
  rw [hsd] at h3
  have hr : (execOp a.eval { dst := dst, op := .convert S T x, type := ty, pos := pos, after := after, guard := none }).run cx.P w = .ok (.value (.slice (some ⟨w.heap.size, 0, none⟩) t.size (grownCap w t.size 0 U))) (Lib.bytesWorld w U t) := by
    have := Lib.run_convert_string_bytes (P := cx.P) w S T U t h3 h1 h2
    simp [execOp, ex, this]
  unfold Oper.wp
  rw [hr]
  have hnew := Lib.bytesWorld_at_new w U t
  have hsz : t.size = t.data.toList.length := rfl
  obtain ⟨σ', hp, hW⟩ := hk (some ⟨w.heap.size, 0, none⟩) (grownCap w t.size 0 U) (X.upd w.heap.size (.cells (Lib.bytesCells w U t) U ((Lib.bytesCells w U t).size, (Lib.bytesCells w U t).size + 1))) (Le.upd _ hok.x_none) (by
    refine ⟨fun v hv => by
      obtain ⟨b, _, rfl⟩ := List.mem_map.1 hv
      rfl, .inr ⟨w.heap.size, 0, _, _, rfl, Hp.upd_same _ _ _, fun i v hi j hj => ?_⟩⟩
    have hj0 : j = 0 := by omega
    subst hj0
    simp only [bcells, List.getElem?_map] at hi
    cases hq : t.data.toList[i]? with
    | none => rw [hq] at hi; cases hi
    | some b =>
      rw [hq] at hi
      obtain rfl := Option.some.inj hi
      have hlt : i < t.data.size := by
        rcases Nat.lt_or_ge i t.data.size with h' | h'
        · exact h'
        · rw [List.getElem?_eq_none (by simpa using h')] at hq; cases hq
      simp only [Nat.zero_add, Nat.mul_one, Nat.add_zero, Lib.bytesCells]
      rw [Array.getElem?_append, if_pos (by simpa using hlt)]
      simp only [Array.getElem?_map]
      rw [← Array.getElem?_toList, hq]; rfl) (by
    rw [← hsz]; unfold grownCap; exact Nat.le_add_right _ _)
  rw [← hsz] at hp
  refine hW _ _ ρ (Ok.put (h := ?_) hp trivial)
  have hold := fun j hj => Lib.bytesWorld_at_old w U t j hj
  have hok2 : Ok cx σ H nl (X.upd w.heap.size (.cells (Lib.bytesCells w U t) U ((Lib.bytesCells w U t).size, (Lib.bytesCells w U t).size + 1))) a (Lib.bytesWorld w U t) ρ := by
    have h0 := hok.lay (.cells (Lib.bytesCells w U t) U ((Lib.bytesCells w U t).size, (Lib.bytesCells w U t).size + 1))
    have hheap : (Lib.bytesWorld w U t).heap = w.heap.push (.cells (Lib.bytesCells w U t) U ((Lib.bytesCells w U t).size, (Lib.bytesCells w U t).size + 1)) := by
      apply Array.ext_getElem?
      intro i
      rw [Array.getElem?_push]
      by_cases e : i = w.heap.size
      · subst e; rw [if_pos rfl]; exact hnew
      · rw [if_neg e]
        rcases Nat.lt_or_ge i w.heap.size with h' | h'
        · exact hold i h'
        · rw [Array.getElem?_eq_none h', Array.getElem?_eq_none (by rw [Lib.bytesWorld_size]; omega)]
    have hos : (Lib.bytesWorld w U t).os = w.os := by simp [Lib.bytesWorld, World.freeze, World.alloc, World.drew, -World.alloc_eq, -World.drew_eq]
    have htp : (Lib.bytesWorld w U t).tape = w.tape := by simp [Lib.bytesWorld, World.freeze, World.alloc, World.drew, -World.alloc_eq, -World.drew_eq]
    have hou : (Lib.bytesWorld w U t).output = w.output := by simp [Lib.bytesWorld, World.freeze, World.alloc, World.drew, -World.alloc_eq, -World.drew_eq]
    exact h0.world hheap hos htp hou (by simp [Lib.bytesWorld, World.freeze, World.alloc, World.drew, -World.alloc_eq, -World.drew_eq])
  exact hok2
/-! ## rows of zeros, and copies -/
theorem range_mod (zs : List Value) : ∀ c : Nat, (List.range (c * zs.length)).map (fun i => zs.toArray[i % zs.toArray.size]!) = (List.replicate c zs).flatten := by
  intro c
  induction c with
  | zero => simp
  | succ c ih =>
    rw [Nat.succ_mul, List.range_add, List.map_append, ih, List.replicate_succ', List.flatten_append]
    congr 1
    simp only [List.flatten_cons, List.flatten_nil, List.append_nil, List.map_map]
    apply List.ext_getElem?
    intro i
    rcases Nat.lt_or_ge i zs.length with h | h
    · simp only [List.getElem?_map, List.getElem?_range h, Option.map_some, Function.comp, List.size_toArray]
      rw [Nat.add_mod, Nat.mul_mod_left, Nat.zero_add, Nat.mod_mod, Nat.mod_eq_of_lt h]
      simp [h]
    · rw [List.getElem?_eq_none (by simpa using h), List.getElem?_eq_none (by simpa using h)]
theorem W_mkslice (hte : TeOk cx.P te) {T E : TypeId} {x y : Operand} {dst : Option Tmp} {ty : TypeId} {pos : String} {after : Array Edge} {n c : Nat} {ni ci : Int} {ti ei : TI} {z : Value}
    (hx : ev σ x = some (.v (.int .i64 ni))) (hy : ev σ y = some (.v (.int .i64 ci))) (hni : ni = n) (hci : ci = c) (ht : te T = some ti) (hd : ti.desc = .slice E) (he : te E = some ei) (hz : ei.zero = some z) (hzl : (cellsL z).length = ei.size) (hz1 : ei.size ≠ 0)
    (hnc : n ≤ c) (hsm : c ≤ 4294967296) (hby : ei.bytes ≤ 1024)
    (hk : ∀ p X', New X X' E ei.size p c (List.replicate n (cellsL z)) → ∃ σ', putS cx.n dst (.v (.slice p n c)) σ = some σ' ∧ W cx (.rg ops rest :: k) σ' H nl X') :
    W cx (.rg ops ({ dst := dst, op := .makeSlice T x y, type := ty, pos := pos, after := after, guard := none } :: rest) :: k) σ H nl X := by
  subst hni hci
  intro a w ρ hok
  refine run_op rfl ?_
  have ex := hok.eval hx trivial
  have ey := hok.eval hy trivial
  simp only [SV.den] at ex ey
  have hu := run_und w (hte _ _ ht)
  rw [hd] at hu
  obtain ⟨f, hb1, hb2, hb3⟩ := run_bytes w (hte _ _ he)
  have hzr := run_zero w (hte _ _ he) hz
  have hs := run_size w (hte _ _ he)
  have w1 : IntKind.i64.wrap (n : Int) = n := by unfold IntKind.wrap IntKind.signed IntKind.bits; simp; omega
  have w2 : IntKind.i64.wrap (c : Int) = c := by unfold IntKind.wrap IntKind.signed IntKind.bits; simp; omega
  have hbig : ¬ ((f.bytes : Int) * (c : Int) > 2 ^ 48) := by
    rw [hb2]
    have h1 : ei.bytes * c ≤ 1024 * 4294967296 := Nat.mul_le_mul hby hsm
    have h2 : ((ei.bytes * c : Nat) : Int) = (ei.bytes : Int) * (c : Int) := by simp
    omega
  have hrow : ∀ zz : Array Value, (c * ei.size ≠ 0 → zz = z.cells) → ((Array.range (c * ei.size)).map (zz[· % zz.size]!)) = (List.replicate c (cellsL z)).flatten.toArray := by
    intro zz hzz
    by_cases h0 : c * ei.size = 0
    · have hc0 : c = 0 := (Nat.mul_eq_zero.1 h0).resolve_right hz1
      subst hc0
      simp
    · rw [hzz h0, ← range_mod _ c, hzl]
      have e1 : z.cells = (cellsL z).toArray := by rw [← cellsL_eq]
      rw [e1]
      apply Array.ext'
      simp
  have hr : (execOp a.eval { dst := dst, op := .makeSlice T x y, type := ty, pos := pos, after := after, guard := none }).run cx.P w = .ok (.value (.slice (some ⟨w.heap.size, 0, none⟩) n c)) { w with heap := w.heap.push (.cells (List.replicate c (cellsL z)).flatten.toArray E) } := by
    have hno : ¬ ((c : Int) < 0) := by omega
    have hno2 : ¬ ((n : Int) < 0) := by omega
    have hno3 : ¬ ((n : Int) > c) := by omega
    have hasx : ∀ m : Int, (asInt (.int .i64 m)).run cx.P w = .ok m w := fun m => by simp [asInt, asIntOf]
    simp only [execOp, ex, ey, Instr.makeSlice, Sem.run_bind, hu, Result.andThen_ok, hasx, hb1, w1, w2, hno, hno2, hno3, hbig, decide_false, Bool.or_false, Bool.false_eq_true, if_false, run_askRoom, hs, Int.toNat_natCast]
    by_cases h0 : c * ei.size = 0
    · simp only [if_pos h0, Sem.run_bind, Sem.run_pure, Result.andThen_ok, run_newRow]
      rw [hrow #[] (fun h => absurd h0 h)]
    · simp only [if_neg h0, Sem.run_bind, hzr, Sem.run_pure, Result.andThen_ok, run_newRow]
      rw [hrow z.cells (fun _ => rfl)]
  unfold Oper.wp
  rw [hr]
  have hrep : List.replicate n (cellsL z) ++ List.replicate (c - n) (cellsL z) = List.replicate c (cellsL z) := by rw [List.replicate_append_replicate, Nat.add_sub_cancel' hnc]
  obtain ⟨σ', hp, hW⟩ := hk (some ⟨w.heap.size, 0, none⟩) (X.upd w.heap.size (.cells (List.replicate c (cellsL z)).flatten.toArray E (0, 0))) (by
    refine ⟨fun v hv => by rw [(List.mem_replicate.1 hv).2, hzl], .inr ⟨w.heap.size, (List.replicate (c - n) (cellsL z)).flatten, rfl, hok.x_none, ?_, ?_, by simpa using hnc⟩⟩
    · rw [← List.flatten_append, hrep]
    · rw [← List.flatten_append, hrep]
      rw [flat_len (k := ei.size) (fun v hv => by rw [(List.mem_replicate.1 hv).2, hzl])]; simp)
  exact hW _ _ ρ ((hok.lay _).put hp trivial)
end
end Go.Fw
/- Copies into new rows, and stores into elements of rows. -/
namespace Go.Fw
open Go.RowKit
theorem putL_append_mid : ∀ (vs pre mid post : List Value), vs.length = mid.length → putL (pre ++ (mid ++ post)) pre.length vs = pre ++ (vs ++ post) := by
  intro vs pre mid post h
  rw [putL_append vs pre (mid ++ post) (by simp; omega)]
  rw [List.append_assoc, h]
  simp
section
variable {cx : Cx} {k k' : List It} {σ σ' : Fm} {H H' : Own} {nl nl' : Nat} {X : Hp} {a : Act} {w : World} {ρ : Nat → Nat × Nat} {te : Te} {s : SV} {ops : Array Oper} {o : Oper} {rest : List Oper}
/-- A block of cells of the partial heap gets other cells. -/
theorem Ok.setX (hok : Ok cx σ H nl X a w ρ) {b : Nat} {cs cs' : List Value} {E : TypeId} (hX : X b = some (.cells cs.toArray E (0, 0))) : Ok cx σ (dropX H) nl (X.upd b (.cells cs'.toArray E (0, 0))) a (World.setBlk w b (.cells cs'.toArray E (0, 0))) ρ := by
  have hsz := lt_of_heap (hok.sub _ _ hX)
  exact hok.swap (b := b) (o := .cells cs'.toArray E (0, 0)) (w' := World.setBlk w b (.cells cs'.toArray E (0, 0)))
    (setBlk_heap hsz) (fun i q hne hi => by simp only [World.setBlk]; rw [Array.getElem?_setIfInBounds_ne (Ne.symm hne)]; exact hi) (hok.dom b (by rw [hX]; simp)) (fun l B hl hm' e => by
      have := (hok.mine_none hl hm').1; rw [e, hX] at this; cases this) rfl rfl rfl (Nat.le_refl _) (by simp [World.setBlk])
theorem firstCells_row {P : Program} {w : World} {E : TypeId} {sz n m c : Nat} {p : Option Addr} {us : List (List Value)} (hs : Sub X w) (hA : Arr X E sz p us) (hn : n ≤ us.length) :
    (Builtin.firstCells sz n (.slice p m c)).run P w = .ok (us.take n).flatten.toArray w := by
  have hl : (us.take n).flatten.length = n * sz := by
    rw [flat_len (fun v hv => hA.uni v (List.mem_of_mem_take hv)), List.length_take, Nat.min_eq_left hn]
  by_cases hne : us = []
  · subst hne
    have hn0 : n = 0 := by simpa using hn
    subst hn0
    cases p <;> simp [Builtin.firstCells, loadCells_zero]
  · obtain ⟨b, off, fz, cs, rfl, hX, hc⟩ := hA.flat hne
    have hw : Win w (b, off) us.flatten := ⟨cs, E, fz, hs _ _ hX, hc⟩
    have hslc : slc us.flatten 0 (n * sz) = some (us.take n).flatten := by
      have e : us.flatten = (us.take n).flatten ++ (us.drop n).flatten := by rw [← List.flatten_append, List.take_append_drop]
      rw [← hl, e]
      have h3 : ∀ l r : List Value, tkL (l ++ r) l.length = some l := by
        intro l r
        induction l with
        | nil => cases r <;> rfl
        | cons x l ih => simp [tkL, ih]
      have h4 : ∀ (l : List Value) (m : Nat), slc l 0 m = tkL l m := fun l m => by cases l <;> rfl
      rw [h4, h3]
    have := run_loadCells_win (P := P) hw hslc
    simp only [Nat.add_zero] at this
    simpa [Builtin.firstCells] using this
theorem W_copy (hte : TeOk cx.P te) {T S E E' : TypeId} {x y : Operand} {dst : Option Tmp} {ty : TypeId} {pos : String} {after : Array Edge} {X0 : Hp} {p q : Option Addr} {n m c c2 : Nat} {ti ei : TI} {vs us : List (List Value)}
    (hx : ev σ x = some (.v (.slice p n c))) (hy : ev σ y = some (.v (.slice q m c2))) (ht : te T = some ti) (hd : ti.desc = .slice E) (he : te E = some ei)
    (hN : New X0 X E ei.size p c vs) (hn : n = vs.length) (hA : Arr X E' ei.size q us) (hm : m = us.length) (hone : ∀ v ∈ us.flatten, one v = true)
    (hk : ∀ X', New X0 X' E ei.size p c (us.take n ++ vs.drop m) → ∃ σ', putS cx.n dst (.v (.int .i64 ((min m n : Nat) : Int))) σ = some σ' ∧ W cx (.rg ops rest :: k) σ' (dropX H) nl X') :
    W cx (.rg ops ({ dst := dst, op := .call { callee := .builtin .copy, args := #[x, y], argTypes := #[T, S] }, type := ty, pos := pos, after := after, guard := none } :: rest) :: k) σ H nl X := by
  intro a w ρ hok
  refine run_op rfl ?_
  have ex := hok.eval hx trivial
  have ey := hok.eval hy trivial
  simp only [SV.den] at ex ey
  have hu := run_und w (hte _ _ ht)
  rw [hd] at hu
  have hs := run_size w (hte _ _ he)
  have hexec : ∀ r w', (Builtin.copy_ #[T, S] ty #[.slice p n c, .slice q m c2]).run cx.P w = .ok r w' → (execOp a.eval { dst := dst, op := .call { callee := .builtin .copy, args := #[x, y], argTypes := #[T, S] }, type := ty, pos := pos, after := after, guard := none }).run cx.P w = .ok (.value r) w' := fun r w' h => by
    simp [execOp, resolve, invoke, builtin, ex, ey, h]
  have hfc := firstCells_row (P := cx.P) (n := min m n) (m := m) (c := c2) hok.sub hA (by omega)
  have hpre : ∀ F : Array Value → Sem Unit, (Builtin.copy_ #[T, S] ty #[.slice p n c, .slice q m c2]).run cx.P w =
      ((match p with | some a => storeCells a (us.take (min m n)).flatten.toArray.toList | none => pure ()).run cx.P w).andThen (fun _ w' => .ok (goInt ((min m n : Nat) : Int)) w') := fun _ => by
    unfold Builtin.copy_
    have hmin : Nat.min m n = min m n := rfl
    simp only [List.getElem?_toArray, List.getElem?_cons_zero, List.getElem?_cons_succ, Sem.run_bind, hu, hs, Result.andThen_ok, Builtin.lenOf, Sem.run_pure, hmin, hfc]
    cases p with
    | none => rfl
    | some q => exact Sem.run_bind _ _ _ _
  have htk : us.take (min m n) = us.take n := by
    rw [hm]
    rcases Nat.le_total us.length n with h | h
    · rw [Nat.min_eq_left h, List.take_of_length_le (Nat.le_refl _), List.take_of_length_le h]
    · rw [Nat.min_eq_right h]
  unfold Oper.wp
  rcases hN.2 with ⟨rfl, rfl, rfl, rfl⟩ | ⟨b, sp, rfl, hb0, rfl, hl1, hl2⟩
  · have hn0 : n = 0 := by simpa using hn
    subst hn0
    obtain ⟨σ', hp, hW⟩ := hk _ (by simpa using New.nil _ E ei.size)
    rw [hexec _ _ (by rw [hpre (fun _ => pure ())]; rfl)]
    refine hW _ _ ρ ?_
    have : goInt ((min m 0 : Nat) : Int) = .int .i64 ((min m 0 : Nat) : Int) := rfl
    rw [this]
    refine Ok.put (h := ?_) hp trivial
    exact hok.weaken (fun _ _ e => e) (fun l C hl => (look_dropX hl).1)
  · have hbw := hok.sub b _ (Hp.upd_same _ _ _)
    have hus : ∀ u ∈ us.take n, u.length = ei.size := fun u hu' => hA.uni u (List.mem_of_mem_take hu')
    have hvd : ∀ u ∈ vs.drop m, u.length = ei.size := fun u hu' => hN.1 u (List.mem_of_mem_drop hu')
    have hsplit : vs.flatten = (vs.take m).flatten ++ (vs.drop m).flatten := by rw [← List.flatten_append, List.take_append_drop]
    have hlen : (us.take n).flatten.length = (vs.take m).flatten.length := by
      rw [flat_len hus, flat_len (fun u hu' => hN.1 u (List.mem_of_mem_take hu')), List.length_take, List.length_take, hn, hm, Nat.min_comm]
    have hput : putL (vs.flatten ++ sp) 0 (us.take n).flatten = (us.take n ++ vs.drop m).flatten ++ sp := by
      have := putL_append_mid (us.take n).flatten [] (vs.take m).flatten ((vs.drop m).flatten ++ sp) hlen
      simp only [List.nil_append, List.length_nil] at this
      rw [hsplit, List.append_assoc, this]; simp
    have hst := run_storeCells_blk (P := cx.P) (b := b) (o := 0) (T := E) (us.take n).flatten 0 w (vs.flatten ++ sp) hbw (by
      rw [hlen, hsplit]; simp) (fun v hv => hone v (by
        obtain ⟨u, hu1, hu2⟩ := List.mem_flatten.1 hv
        exact List.mem_flatten.2 ⟨u, List.mem_of_mem_take hu1, hu2⟩))
    simp only [Nat.add_zero, hput] at hst
    obtain ⟨σ', hp, hW⟩ := hk (X0.upd b (.cells ((us.take n ++ vs.drop m).flatten ++ sp).toArray E (0, 0))) (by
      refine ⟨fun v hv => ?_, .inr ⟨b, sp, rfl, hb0, rfl, ?_, ?_⟩⟩
      · rcases List.mem_append.1 hv with h | h
        · exact hus v h
        · exact hvd v h
      · rw [← hl1]
        simp only [List.length_append, List.flatten_append, hlen]
        rw [hsplit]; simp
      · simp only [List.length_append, List.length_take, List.length_drop]; omega)
    rw [hexec (goInt ((min m n : Nat) : Int)) (World.setBlk w b (.cells ((us.take n ++ vs.drop m).flatten ++ sp).toArray E (0, 0))) (by
      rw [hpre (fun _ => pure ())]
      simp only [htk, hst, Result.andThen_ok])]
    refine hW _ _ ρ ?_
    refine Ok.put (h := ?_) hp trivial
    have := hok.setX (b := b) (cs' := (us.take n ++ vs.drop m).flatten ++ sp) (Hp.upd_same _ _ _)
    rw [upd_upd] at this
    exact this
/-- A store into a block of the partial heap, by its address. -/
theorem W_stX (hte : TeOk cx.P te) {T E : TypeId} {x y : Operand} {ty : TypeId} {pos : String} {after : Array Edge} {b off : Nat} {cs : List Value} {v : Value} {u : SV} {ti : TI} (ht : te T = some ti) (hsz : (cellsL v).length = ti.size)
    (hx : ev σ x = some (.v (.pointer (some ⟨b, off, none⟩)))) (hy : ev σ y = some u) (hu : real H u = some v) (hX : X b = some (.cells cs.toArray E (0, 0))) (hl : off + (cellsL v).length ≤ cs.length) (hone : allOne (cellsL v) = true)
    (hk : W cx (.rg ops rest :: k) σ (dropX H) nl (X.upd b (.cells (putL cs off (cellsL v)).toArray E (0, 0)))) :
    W cx (.rg ops ({ dst := none, op := .store T x y, type := ty, pos := pos, after := after, guard := none } :: rest) :: k) σ H nl X := by
  intro a w ρ hok
  refine run_op rfl ?_
  have ex := hok.eval hx trivial
  have ey := hok.eval hy (real_cond hu)
  rw [hok.v.real hu] at ey
  simp only [SV.den] at ex
  have hst := run_storeCells_blk (P := cx.P) (b := b) (o := off) (T := E) (cellsL v) 0 w cs (hok.sub _ _ hX) (by simpa using hl) (allOne_spec hone)
  simp only [Nat.add_zero] at hst
  have hexec : (execOp a.eval { dst := none, op := .store T x y, type := ty, pos := pos, after := after, guard := none }).run cx.P w = .ok .skip (World.setBlk w b (.cells (putL cs off (cellsL v)).toArray E (0, 0))) := by
    have hs := run_size w (hte _ _ ht)
    have hsz' : v.cells.size = ti.size := by rw [← hsz, ← cellsL_eq]; simp
    simp only [execOp, ex, ey, Instr.storeAt, Instr.sureAddr, storeVar, Sem.run_bind, Sem.run_pure, Result.andThen_ok, hs]
    simp only [hsz', ne_eq, not_true_eq_false, if_false, Result.andThen_ok, cellsL_eq, hst]
  unfold Oper.wp
  rw [hexec]
  exact hk _ _ ρ (hok.setX hX)
end
end Go.Fw
/- Elements of rows that are the call's own: their addresses, and stores into them. -/
namespace Go.Fw
open Go.RowKit
theorem putL_mid : ∀ (vs pre u post : List Value) (off : Nat), off + vs.length ≤ u.length → putL (pre ++ (u ++ post)) (pre.length + off) vs = pre ++ (putL u off vs ++ post) := by
  intro vs pre u post off h
  have e1 : u = u.take off ++ ((u.drop off).take vs.length ++ u.drop (off + vs.length)) := by
    conv => lhs; rw [← List.take_append_drop off u, ← List.take_append_drop vs.length (u.drop off)]
    rw [List.drop_drop]
  have hto : (u.take off).length = off := by simp; omega
  have htl : ((u.drop off).take vs.length).length = vs.length := by simp; omega
  have e2 : putL u off vs = u.take off ++ (vs ++ u.drop (off + vs.length)) := by
    have := putL_append_mid vs (u.take off) ((u.drop off).take vs.length) (u.drop (off + vs.length)) htl.symm
    rw [← e1, hto] at this; exact this
  have e3 : pre ++ (u ++ post) = (pre ++ u.take off) ++ ((u.drop off).take vs.length ++ (u.drop (off + vs.length) ++ post)) := by
    conv => lhs; rw [e1]
    simp
  have := putL_append_mid vs (pre ++ u.take off) ((u.drop off).take vs.length) (u.drop (off + vs.length) ++ post) htl.symm
  rw [← e3, List.length_append, hto] at this
  rw [this, e2]; simp
section
variable {cx : Cx} {k k' : List It} {σ σ' : Fm} {H H' : Own} {nl nl' : Nat} {X : Hp} {a : Act} {w : World} {ρ : Nat → Nat × Nat} {te : Te} {s : SV} {ops : Array Oper} {o : Oper} {rest : List Oper}
theorem W_idxN (hte : TeOk cx.P te) {T E : TypeId} {x y : Operand} {dst : Option Tmp} {ty : TypeId} {pos : String} {after : Array Edge} {X0 : Hp} {p : Option Addr} {n c m : Nat} {kk : IntKind} {i : Int} {ti ei : TI} {vs : List (List Value)}
    (hx : ev σ x = some (.v (.slice p n c))) (hy : ev σ y = some (.v (.int kk i))) (ht : te T = some ti) (hd : ti.desc = .slice E) (he : te E = some ei) (hN : New X0 X E ei.size p c vs) (hn : n = vs.length) (hi : i = m) (hm : m < n)
    (h : ∀ b, p = some ⟨b, 0, none⟩ → ∃ σ', putS cx.n dst (.v (.pointer (some ⟨b, m * ei.size, none⟩))) σ = some σ' ∧ W cx (.rg ops rest :: k) σ' H nl X) :
    W cx (.rg ops ({ dst := dst, op := .indexAddr T x y, type := ty, pos := pos, after := after, guard := none } :: rest) :: k) σ H nl X := by
  subst hi
  rcases hN.2 with ⟨rfl, _⟩ | ⟨b, sp, rfl, _⟩
  · simp at hn; omega
  · obtain ⟨σ', hp, hk⟩ := h b rfl
    refine W_val (s := .v (.pointer (some ⟨b, m * ei.size, none⟩))) (fun a w ρ hok => ⟨?_, trivial⟩) hp hk
    have ex := hok.eval hx trivial
    have ey := hok.eval hy trivial
    simp only [SV.den] at ex ey
    have hu := run_und w (hte _ _ ht)
    rw [hd] at hu
    have hs := run_size w (hte _ _ he)
    simp [execOp, ex, ey, Instr.indexAt, asIntOf, hu, hs, hm, addr_add, SV.den]
/-- A store into an element (or a field of it) of a row that is the call's own. -/
theorem W_stN (hte : TeOk cx.P te) {T E : TypeId} {x y : Operand} {ty : TypeId} {pos : String} {after : Array Edge} {X0 : Hp} {b at' off kk c m : Nat} {vs : List (List Value)} {u : List Value} {v : Value} {q : SV} {ti : TI} (ht : te T = some ti) (hsz : (cellsL v).length = ti.size)
    (hx : ev σ x = some (.v (.pointer (some ⟨b, at', none⟩)))) (hy : ev σ y = some q) (hq : real H q = some v) (hN : New X0 X E kk (some ⟨b, 0, none⟩) c vs) (hat : at' = m * kk + off) (hu : vs[m]? = some u) (hl : off + ti.size ≤ kk) (hone : allOne (cellsL v) = true)
    (hk : ∀ X', New X0 X' E kk (some ⟨b, 0, none⟩) c (vs.set m (putL u off (cellsL v))) → W cx (.rg ops rest :: k) σ (dropX H) nl X') :
    W cx (.rg ops ({ dst := none, op := .store T x y, type := ty, pos := pos, after := after, guard := none } :: rest) :: k) σ H nl X := by
  rcases hN.2 with ⟨_, h, _⟩ | ⟨b', sp, e, hb0, rfl, hl1, hl2⟩
  · cases h
  · have eb : b = b' := by injection e with e; injection e
    subst eb
    have hul : u.length = kk := hN.1 u (List.mem_of_getElem? hu)
    have hm : m < vs.length := by
      rcases Nat.lt_or_ge m vs.length with h | h
      · exact h
      · rw [List.getElem?_eq_none h] at hu; cases hu
    have hsplit : vs = vs.take m ++ u :: vs.drop (m + 1) := by
      conv => lhs; rw [← List.take_append_drop m vs]
      rw [List.drop_eq_getElem_cons hm]
      rw [List.getElem?_eq_getElem hm] at hu
      rw [Option.some.inj hu]
    have hset : vs.set m (putL u off (cellsL v)) = vs.take m ++ putL u off (cellsL v) :: vs.drop (m + 1) := List.set_eq_take_append_cons_drop .. |>.trans (by rw [if_pos hm])
    have hpre : (vs.take m).flatten.length = m * kk := by rw [flat_len (fun v hv => hN.1 v (List.mem_of_mem_take hv)), List.length_take, Nat.min_eq_left (by omega)]
    have e0 : vs.flatten ++ sp = (vs.take m).flatten ++ (u ++ ((vs.drop (m + 1)).flatten ++ sp)) := by
      conv => lhs; rw [hsplit]
      simp
    have e1 : putL (vs.flatten ++ sp) at' (cellsL v) = (vs.set m (putL u off (cellsL v))).flatten ++ sp := by
      rw [e0, hat, ← hpre, putL_mid _ _ _ _ _ (by omega), hset]; simp
    refine W_stX hte ht hsz hx hy hq (Hp.upd_same _ _ _) ?_ hone ?_
    · rw [e0]; simp only [List.length_append]; omega
    · rw [upd_upd, e1]
      refine hk _ ⟨fun z hz => ?_, .inr ⟨b, sp, rfl, hb0, rfl, ?_, by simpa using hl2⟩⟩
      · rcases List.mem_or_eq_of_mem_set hz with h | rfl
        · exact hN.1 z h
        · rw [putL_length, hul]
      · rw [← e1, putL_length, hl1]
end
end Go.Fw
/- Regions that draw their order: which blocks stay is told; slices that are cut there. -/
namespace Go.Fw
open Go.RowKit
section
variable {cx : Cx} {k k' : List It} {σ σ' : Fm} {H H' H0 : Own} {nl nl' : Nat} {X Xs : Hp} {a : Act} {w : World} {ρ : Nat → Nat × Nat} {te : Te} {s : SV} {ops : Array Oper} {o : Oper} {rest : List Oper} {L : List Nat} {i : Nat}
/-- A region that draws its order begins: the blocks of the labels ls may change there. -/
theorem W_drawL (ls : List Nat) {id : Nat} (hm : cx.P.follows .mixedOrders = true) (hs : Region.noSelect ops = true) (hp : pairOk ops = true) (hG : bx (cutA ls H []) = ⟨H0⟩) (h : WD cx ops k H0 X [] σ H nl X) : W cx (.code (.region id ops true) :: k) σ H nl X := by
  rw [bx_eq] at hG
  have e2 : H0 = cutA ls H [] := by injection hG with h; exact h.symm
  have h2 : ∀ t s, look H0 t = some s → look H t = some s := fun t s h => by
    rw [e2] at h; exact cutA_look (fun _ _ => rfl) (fun u v e => by cases e) (fun _ _ => rfl) h
  intro a w ρ hok
  refine wp_region_held (S := SS H0 X ρ) hm ?_
  exact h ⟨hs, hp, (fun _ hi => by cases hi), List.nodup_nil, h2, fun _ _ h => h⟩ a _ ρ ρ (fun _ _ _ => rfl) hok.drew
theorem WD_cut (hte : TeOk cx.P te) {T E : TypeId} {x : Operand} {lo hi : Option Operand} {dst : Option Tmp} {ty : TypeId} {pos : String} {after : Array Edge} {p : Option Addr} {n c l h : Nat} {ti ei : TI} {vs : List (List Value)}
    (hi' : nthL ops.toList i = some { dst := dst, op := .slice T x lo hi none, type := ty, pos := pos, after := after, guard := none }) (hr : memL (rdyL L 0 ops.toList) i = true)
    (hx : ev σ x = some (.v (.slice p n c))) (ht : te T = some ti) (hd : ti.desc = .slice E) (he : te E = some ei) (hA : Arr X E ei.size p vs) (hn : n = vs.length) (hnc : n ≤ c) (hl : bnd σ lo 0 l) (hh : bnd σ hi n h) (hlh : l ≤ h) (hhn : h ≤ n)
    (hk : ∀ q c', Arr X E ei.size q ((vs.drop l).take (h - l)) → h - l ≤ c' → ∃ σ', putS cx.n dst (.v (.slice q (h - l) c')) σ = some σ' ∧ WD cx ops k H0 Xs (i :: L) σ' H nl X) : WD cx ops k H0 Xs L σ H nl X := by
  have hq : Arr X E ei.size (if c = l then p else p.map (·.add (l * ei.size))) ((vs.drop l).take (h - l)) := by
    by_cases hcl : c = l
    · have hnil : (vs.drop l).take (h - l) = [] := by
        have : h - l = 0 := by omega
        rw [this]; simp
      rw [hnil]; exact Arr.nil _ _ _ _
    · rw [if_neg hcl]; exact hA.cut l (h - l)
  obtain ⟨σ', hp, hW⟩ := hk _ (c - l) hq (by omega)
  refine WD_take (s := .v (.slice (if c = l then p else p.map (·.add (l * ei.size))) (h - l) (c - l))) hi' rfl hr (fun a w w2 ρ ρ0 hρ hok hss hown => ?_) (fun _ _ _ _ => trivial) hp hW
  have ex := hok.eval hx trivial
  simp only [SV.den] at ex
  have hu := run_und w2 (hte _ _ ht)
  rw [hd] at hu
  have hs := run_size w2 (hte _ _ he)
  have hb := sliceBounds_run hok (isS := true) hh hl hlh (by omega : h ≤ c) hnc w2
  simp [execOp, ex, Instr.sliceAt, Instr.slice, hu, hb, hs, SV.den]
/-- A call in a region that draws its order, which adds to the partial heap. -/
theorem SD_callL {cal : Operand} {args : Array Operand} {tys : Array TypeId} {dst : Option Tmp} {ty : TypeId} {pos : String} {after : Array Edge} {f : FuncId} {fi ca vs : List Value} {Φ : Value → Hp → Prop} (hsub : Le Xs X)
    (hi : nthL ops.toList i = some { dst := dst, op := .call { callee := .value cal, args := args, argTypes := tys }, type := ty, pos := pos, after := after, guard := none })
    (hc : callee σ cal = some (f, fi, ca)) (ha : evs σ H args.toList = some vs) (hT : Trip cx.P f (fi ++ vs ++ ca).toArray X (Rt Φ))
    (h : ∀ r X', Φ r X' → Le X X' ∧ ∃ σ', putS cx.n dst (.v r) σ = some σ' ∧ WD cx ops k H0 Xs (i :: L) σ' H nl X') : SD cx ops k H0 Xs L σ H nl X i :=
  SD_call hi hc ha hT fun r X' hr => by
    obtain ⟨h1, h2⟩ := h r X' hr
    exact ⟨h1.ck.kx, hsub.trans h1, h2⟩
end
end Go.Fw
/- Value operations told apart from the place where they stand: in a region of either kind. -/
namespace Go.Fw
open Go.RowKit
/-- What a frame tells of plain values. -/
def Evl (σ : Fm) (a : Act) : Prop := ∀ x v, ev σ x = some (.v v) → a.eval x = v
theorem Ok.evl {cx : Cx} {σ : Fm} {H : Own} {nl : Nat} {X : Hp} {a : Act} {w : World} {ρ : Nat → Nat × Nat} (hok : Ok cx σ H nl X a w ρ) : Evl σ a := fun x v h => by
  have := hok.eval h trivial
  simpa [SV.den] using this
/-- An operation gives v wherever the frame and the partial heap are so. -/
def VOp (P : Program) (σ : Fm) (X : Hp) (op : Op) (v : Value) : Prop :=
  ∀ (a : Act) (w : World) (o : Oper), o.op = op → Evl σ a → Sub X w → (execOp a.eval o).run P w = .ok (.value v) w
section
variable {cx : Cx} {k k' : List It} {σ σ' : Fm} {H H' H0 : Own} {nl nl' : Nat} {X Xs : Hp} {te : Te} {s : SV} {ops : Array Oper} {o : Oper} {rest : List Oper} {L : List Nat} {i : Nat} {v : Value}
theorem W_v {op : Op} {dst : Option Tmp} {ty : TypeId} {pos : String} {after : Array Edge} (h : VOp cx.P σ X op v) (hp : putS cx.n dst (.v v) σ = some σ') (hk : W cx (.rg ops rest :: k) σ' H nl X) :
    W cx (.rg ops ({ dst := dst, op := op, type := ty, pos := pos, after := after, guard := none } :: rest) :: k) σ H nl X :=
  W_val (s := .v v) (fun a w _ hok => ⟨h a w _ rfl hok.evl hok.sub, trivial⟩) hp hk
theorem WD_v {op : Op} {dst : Option Tmp} {ty : TypeId} {pos : String} {after : Array Edge} (hi : nthL ops.toList i = some { dst := dst, op := op, type := ty, pos := pos, after := after, guard := none }) (hr : memL (rdyL L 0 ops.toList) i = true)
    (h : VOp cx.P σ Xs op v) (hp : putS cx.n dst (.v v) σ = some σ') (hk : WD cx ops k H0 Xs (i :: L) σ' H nl X) : WD cx ops k H0 Xs L σ H nl X :=
  WD_take (s := .v v) hi rfl hr (fun a _ w2 _ _ _ hok hss _ => h a w2 _ rfl hok.evl hss.sub) (fun _ _ _ _ => trivial) hp hk
/-- A region that draws its order begins: the blocks of the labels ls may change there, and of the partial heap what is not of Xs. -/
theorem W_drawX (ls : List Nat) {id : Nat} (hm : cx.P.follows .mixedOrders = true) (hs : Region.noSelect ops = true) (hp : pairOk ops = true) (hG : bx (cutA ls H []) = ⟨H0⟩) (hX : Le Xs X) (h : WD cx ops k H0 Xs [] σ H nl X) : W cx (.code (.region id ops true) :: k) σ H nl X := by
  rw [bx_eq] at hG
  have e2 : H0 = cutA ls H [] := by injection hG with h; exact h.symm
  have h2 : ∀ t s, look H0 t = some s → look H t = some s := fun t s h => by
    rw [e2] at h; exact cutA_look (fun _ _ => rfl) (fun u v e => by cases e) (fun _ _ => rfl) h
  intro a w ρ hok
  refine wp_region_held (S := SS H0 Xs ρ) hm ?_
  exact h ⟨hs, hp, (fun _ hi => by cases hi), List.nodup_nil, h2, hX⟩ a _ ρ ρ (fun _ _ _ => rfl) hok.drew
/-- The partial heap but for one block. -/
def Hp.del (X : Hp) (r : Nat) : Hp := fun i => if i = r then none else X i
theorem Hp.del_le (X : Hp) (r : Nat) : Le (X.del r) X := fun i o h => by
  unfold Hp.del at h; split at h
  · cases h
  · exact h
theorem Hp.del_ne (X : Hp) {r i : Nat} (h : i ≠ r) : X.del r i = X i := by simp [Hp.del, h]
theorem Hp.del_upd (X : Hp) (r : Nat) (o : Obj) : Le (X.del r) (X.upd r o) := fun i p h => by
  unfold Hp.del at h; split at h
  · cases h
  · rename_i e; rw [Hp.upd_ne _ _ e]; exact h
theorem Arr.del {E : TypeId} {kk : Nat} {p : Option Addr} {vs : List (List Value)} (h : Arr X E kk p vs) {r : Nat} (hr : ∀ cs T fz, X r ≠ some (.cells cs T fz)) : Arr (X.del r) E kk p vs :=
  h.mono fun b cs fz hb => by rw [Hp.del_ne _ (fun e => hr _ _ _ (e ▸ hb))]; exact hb

end
/-! ## some value operations -/
section
variable {P : Program} {σ : Fm} {X : Hp} {te : Te}
theorem V_b2s (hte : TeOk P te) {T S U : TypeId} {x : Operand} {p : Option Addr} {n c : Nat} {ti ei si : TI} {t : List UInt8}
    (hx : ev σ x = some (.v (.slice p n c))) (ht : te T = some ti) (hd : ti.desc = .slice U) (he : te U = some ei) (hed : ei.desc = .int .u8) (hs : te S = some si) (hsd : si.desc = .string) (hA : Arr X U 1 p (bcells t)) (hn : n = t.length) :
    VOp P σ X (.convert T S x) (.string ⟨t.toArray⟩) := by
  intro a w o ho hev hsub
  have ex := hev _ _ hx
  have h1 := (hte _ _ ht).und
  rw [hd] at h1
  have h2 := (hte _ _ he).und
  rw [hed] at h2
  have h3 := (hte _ _ hs).und
  rw [hsd] at h3
  have hc := run_convert_bytes_string w T S U p n c h1 h2 h3
  have hnews := firstCells_row (P := P) (n := n) (m := n) (c := c) hsub hA (by rw [bcells_length]; omega)
  rw [List.take_of_length_le (by rw [bcells_length]; omega), bcells_flat] at hnews
  have hb : (Conv.bytesToString (.slice p n c)).run P w = .ok (.string ⟨t.toArray⟩) w := by
    cases p with
    | none =>
      simp only [Builtin.firstCells, Sem.run_pure] at hnews
      injection hnews with h4 _
      have : t = [] := by
        have := congrArg Array.size h4
        simp at this
        exact List.eq_nil_of_length_eq_zero this.symm
      subst this
      simp [Conv.bytesToString]; rfl
    | some q =>
      simp only [Builtin.firstCells, Nat.mul_one] at hnews
      have := run_bytesToString (P := P) w q n c (t.map fun b => (b.toNat : Int)) (by rw [hnews]; simp)
      rw [this, foldl_push]
      simp
  simp [execOp, ho, ex, hc, hb]
theorem V_lookup (hte : TeOk P te) {T K E : TypeId} {z : Value} (hT : MapT te T K E z) {x y : Operand} {r : Nat} {kv : KV} {s : ByteArray}
    (hx : ev σ x = some (.v (.map (some r)))) (hy : ev σ y = some (.v (.string s))) (hM : MapX X r kv) : VOp P σ X (.lookup T x y true) (.tuple #[(getK s kv).getD z, .bool (getK s kv).isSome]) := by
  intro a w o ho hev hsub
  obtain ⟨⟨i1, ht1, hd1⟩, ⟨i2, ht2, hd2⟩, ⟨i3, ht3, hz⟩⟩ := hT
  obtain ⟨es, clock, hX, hA⟩ := hM
  have ex := hev _ _ hx
  have ey := hev _ _ hy
  have hu := run_und w (hte _ _ ht1)
  rw [hd1] at hu
  have hK := run_und w (hte _ _ ht2)
  rw [hd2] at hK
  have hzr := run_zero w (hte _ _ ht3) hz
  have hg := run_getObj (P := P) (hsub _ _ hX)
  have hf := run_findKey (P := P) hA hK s
  have hc := run_checkKey (P := P) hK es.isEmpty s
  have hi := idxK_get s kv 0
  simp only [execOp, ho, ex, ey, Instr.lookup, Sem.run_bind, hu, hg, Result.andThen_ok, Sem.run_pure, hc, hf]
  cases hq : idxK s kv 0 with
  | none => rw [hq] at hi; simp at hi; simp [← hi, hzr]
  | some p => rw [hq] at hi; simp at hi; simp [← hi]
theorem V_lookup1 (hte : TeOk P te) {T K E : TypeId} {z : Value} (hT : MapT te T K E z) {x y : Operand} {r : Nat} {kv : KV} {s : ByteArray}
    (hx : ev σ x = some (.v (.map (some r)))) (hy : ev σ y = some (.v (.string s))) (hM : MapX X r kv) : VOp P σ X (.lookup T x y false) ((getK s kv).getD z) := by
  intro a w o ho hev hsub
  obtain ⟨⟨i1, ht1, hd1⟩, ⟨i2, ht2, hd2⟩, ⟨i3, ht3, hz⟩⟩ := hT
  obtain ⟨es, clock, hX, hA⟩ := hM
  have ex := hev _ _ hx
  have ey := hev _ _ hy
  have hu := run_und w (hte _ _ ht1)
  rw [hd1] at hu
  have hK := run_und w (hte _ _ ht2)
  rw [hd2] at hK
  have hzr := run_zero w (hte _ _ ht3) hz
  have hg := run_getObj (P := P) (hsub _ _ hX)
  have hf := run_findKey (P := P) hA hK s
  have hc := run_checkKey (P := P) hK es.isEmpty s
  have hi := idxK_get s kv 0
  simp only [execOp, ho, ex, ey, Instr.lookup, Sem.run_bind, hu, hg, Result.andThen_ok, Sem.run_pure, hc, hf]
  cases hq : idxK s kv 0 with
  | none => rw [hq] at hi; simp at hi; simp [← hi, hzr]
  | some p => rw [hq] at hi; simp at hi; simp [← hi]
theorem equalIn_sl {P : Program} {T : TypeId} {w : World} {E : TypeId} (hu : (underlying T).run P w = .ok (.slice E) w) (d : Nat) (p : Option Addr) (n c : Nat) : (Op.equalIn (d + 1) T (.slice p n c) (.slice none 0 0)).run P w = .ok p.isNone w := by
  cases p <;> simp [Op.equalIn, hu]
/-- A slice is compared with nil. -/
theorem V_slnil (hte : TeOk P te) {T E U : TypeId} {x : Operand} {p : Option Addr} {n c : Nat} {ti : TI} (hx : ev σ x = some (.v (.slice p n c))) (ht : te T = some ti) (hd : ti.desc = .slice E) :
    VOp P σ X (.binOp .eql T x (.const (.slice none 0 0)) U) (.bool p.isNone) := by
  intro a w o ho hev hsub
  have ex := hev _ _ hx
  have hu := run_und w (hte _ _ ht)
  rw [hd] at hu
  have he := equalIn_sl hu 9999 p n c
  have ey : a.eval (.const (.slice none 0 0)) = .slice none 0 0 := rfl
  simp only [execOp, ho, ex, ey, binOp, equal_succ]
  simp [eqGuard, he]
end
end Go.Fw
/- Maps written in regions that draw their order. -/
namespace Go.Fw
open Go.RowKit
theorem mapset_run {P : Program} {te : Te} (hte : TeOk P te) {T K E : TypeId} {z : Value} (hT : MapT te T K E z) {x y q : Operand} {r : Nat} {kv : KV} {s : ByteArray} {v : Value} {a : Act} {w : World} {o : Oper} {es : Array MapEntry} {clock : Nat}
    (ho : o.op = .mapUpdate T x y q) (ex : a.eval x = .map (some r)) (ey : a.eval y = .string s) (eq : a.eval q = v) (hA : MapAt es clock kv) (hw : w.heap[r]? = some (.map es clock)) :
    ∃ es' c', MapAt es' c' (setK s v kv) ∧ (execOp a.eval o).run P w = .ok .skip (World.setBlk w r (.map es' c')) := by
  obtain ⟨⟨i1, ht1, hd1⟩, ⟨i2, ht2, hd2⟩, _⟩ := hT
  have hun := run_und w (hte _ _ ht1)
  rw [hd1] at hun
  have hK := run_und w (hte _ _ ht2)
  rw [hd2] at hK
  have hg := run_getObj (P := P) hw
  have hf := run_findKey (P := P) hA hK s
  have hc := run_checkKey (P := P) hK false s
  obtain ⟨g1, g2⟩ := setK_at hA s v
  cases hi : idxK s kv 0 with
  | none =>
    have hr : (execOp a.eval o).run P w = .ok .skip (World.setBlk w r (.map (es.push { key := .string s, val := v, born := clock }) (clock + 1))) := by
      simp only [execOp, ho, ex, ey, eq, Instr.mapUpdate, Sem.run_bind, hun, hg, hc, hf, Result.andThen_ok, hi, run_setObj hw, Sem.run_pure]
    exact ⟨_, _, g2 hi, hr⟩
  | some p =>
    obtain ⟨i, v0⟩ := p
    have hes : ∃ e, es[i]? = some e ∧ e.key = .string s := by
      have gen : ∀ (l : List MapEntry) (kv : KV) (j : Nat), l.map (fun e => (e.key, e.val)) = kv.map (fun p => (Value.string p.1, p.2)) → ∀ i v, idxK s kv j = some (i, v) → j ≤ i ∧ ∃ e, l[i - j]? = some e ∧ e.key = .string s := by
        intro l
        induction l with
        | nil => intro kv j h i v hi; cases kv with
          | nil => cases hi
          | cons p kv => simp at h
        | cons e l ih =>
          intro kv j h i v hi
          cases kv with
          | nil => simp at h
          | cons p kv =>
            obtain ⟨k, v1⟩ := p
            simp only [List.map_cons, List.cons.injEq, Prod.mk.injEq] at h
            obtain ⟨⟨h1, h2⟩, h3⟩ := h
            simp only [idxK] at hi
            split at hi
            · rename_i hb
              simp only [Option.some.injEq, Prod.mk.injEq] at hi
              obtain ⟨rfl, rfl⟩ := hi
              have : s = k := by simpa using hb
              exact ⟨Nat.le_refl _, e, by simp, by rw [h1, this]⟩
            · obtain ⟨g1, e', g2, g3⟩ := ih kv (j + 1) h3 i v hi
              exact ⟨by omega, e', by rw [show i - j = (i - (j + 1)) + 1 by omega]; simpa using g2, g3⟩
      obtain ⟨_, e, h1, h2⟩ := gen es.toList kv 0 hA.all i v0 hi
      exact ⟨e, by simpa using h1, h2⟩
    obtain ⟨e, he, hek⟩ := hes
    have hstay : (Instr.keyThatStays (.string s) (.string s)).run P w = .ok (.string s) w := by
      simp [Instr.keyThatStays, Instr.sameBits]
    have hr : (execOp a.eval o).run P w = .ok .skip (World.setBlk w r (.map (es.modify i fun e => { e with key := .string s, val := v }) clock)) := by
      simp only [execOp, ho, ex, ey, eq, Instr.mapUpdate, Sem.run_bind, hun, hg, hc, hf, Result.andThen_ok, hi, he, Option.map_some, Option.getD_some, hek, hstay, run_setObj hw, Sem.run_pure]
    exact ⟨_, _, g1 i v0 hi, hr⟩
section
variable {cx : Cx} {k k' : List It} {σ σ' : Fm} {H H' H0 : Own} {nl nl' : Nat} {X Xs : Hp} {te : Te} {s : SV} {ops : Array Oper} {rest : List Oper} {L : List Nat} {i : Nat} {v : Value}
theorem SD_mapset (hte : TeOk cx.P te) {T K E : TypeId} {z : Value} (hT : MapT te T K E z) {x y q : Operand} {dst : Option Tmp} {ty : TypeId} {pos : String} {after : Array Edge} {r : Nat} {kv : KV} {s : ByteArray} {u : SV}
    (hi : nthL ops.toList i = some { dst := dst, op := .mapUpdate T x y q, type := ty, pos := pos, after := after, guard := none })
    (hx : ev σ x = some (.v (.map (some r)))) (hy : ev σ y = some (.v (.string s))) (hq : ev σ q = some u) (hu : real H u = some v) (hM : MapX X r kv) (hxs : Xs r = none)
    (hk : ∀ es clock, MapAt es clock (setK s v kv) → ∃ σ', putS cx.n dst (.v undef) σ = some σ' ∧ WD cx ops k H0 Xs (i :: L) σ' H nl (X.upd r (.map es clock))) : SD cx ops k H0 Xs L σ H nl X i := by
  intro hd hri a w ρ ρ0 hρ hok
  rw [nthL_eq, Array.getElem?_toList] at hi
  obtain ⟨es, clock, hX, hA⟩ := hM
  have ex := hok.eval hx trivial
  have ey := hok.eval hy trivial
  have eq : a.eval q = v := (hok.eval hq (real_cond hu)).trans (hok.v.real hu)
  simp only [SV.den] at ex ey
  obtain ⟨es', c', hA', hr⟩ := mapset_run (o := { dst := dst, op := .mapUpdate T x y q, type := ty, pos := pos, after := after, guard := none }) hte hT rfl ex ey eq hA (hok.sub _ _ hX)
  obtain ⟨σ', hp, hW⟩ := hk es' c' hA'
  have hok' := hok.remap (es' := es') (clock' := c') hX
  have hd' := hd.next hri (X' := X.upd r (.map es' c')) hd.own (fun b o hb => by
    rw [Hp.upd_ne _ _ (fun e => by rw [e, hxs] at hb; cases hb)]; exact hd.sub b o hb)
  unfold wpOp
  rw [hi]
  simp only [Region.wanted, if_true]
  refine .inl ?_
  unfold Oper.wp
  rw [hr]
  exact ⟨hok'.ss hd' hρ, hW hd' _ _ ρ ρ0 hρ (hok'.put hp trivial)⟩
end
end Go.Fw
/- A part of a row that is the call's own is set to zeros. -/
namespace Go.Fw
open Go.RowKit
section
variable {cx : Cx} {k k' : List It} {σ σ' : Fm} {H H' : Own} {nl nl' : Nat} {X : Hp} {te : Te} {s : SV} {ops : Array Oper} {rest : List Oper}
theorem W_clearN (hte : TeOk cx.P te) {T E : TypeId} {x : Operand} {dst : Option Tmp} {ty : TypeId} {pos : String} {after : Array Edge} {X0 : Hp} {p q : Option Addr} {n m c c2 : Nat} {ti ei : TI} {vs : List (List Value)} {z : Value}
    (hx : ev σ x = some (.v (.slice q n c2))) (ht : te T = some ti) (hd : ti.desc = .slice E) (he : te E = some ei) (hz : ei.zero = some z) (hzl : (cellsL z).length = ei.size) (hone : allOne (cellsL z) = true)
    (hN : New X0 X E ei.size p c vs) (hm : m ≤ vs.length) (hn : n = vs.length - m) (hq : n ≠ 0 → q = p.map (·.add (m * ei.size)))
    (hk : ∀ X', New X0 X' E ei.size p c (vs.take m ++ List.replicate n (cellsL z)) → ∃ σ', putS cx.n dst (.v (.tuple #[])) σ = some σ' ∧ W cx (.rg ops rest :: k) σ' (dropX H) nl X') :
    W cx (.rg ops ({ dst := dst, op := .call { callee := .builtin .clear, args := #[x], argTypes := #[T] }, type := ty, pos := pos, after := after, guard := none } :: rest) :: k) σ H nl X := by
  intro a w ρ hok
  refine run_op rfl ?_
  have ex := hok.eval hx trivial
  simp only [SV.den] at ex
  have hun := run_und w (hte _ _ ht)
  rw [hd] at hun
  have hzr := run_zero w (hte _ _ he) hz
  unfold Oper.wp
  by_cases h0 : n = 0
  · subst h0
    have hmm : m = vs.length := by omega
    have hr : (execOp a.eval { dst := dst, op := .call { callee := .builtin .clear, args := #[x], argTypes := #[T] }, type := ty, pos := pos, after := after, guard := none }).run cx.P w = .ok (.value (.tuple #[])) w := by
      cases q <;> simp [execOp, resolve, invoke, builtin, ex, Builtin.clear_, hun]
    rw [hr]
    obtain ⟨σ', hp, hW⟩ := hk X (by rw [hmm, List.take_length]; simpa using hN)
    refine hW _ _ ρ (Ok.put (h := ?_) hp trivial)
    exact hok.weaken (fun _ _ e => e) (fun l C hl => (look_dropX hl).1)
  · rcases hN.2 with ⟨rfl, _⟩ | ⟨b, sp, rfl, hb0, rfl, hl1, hl2⟩
    · simp at hn; exact absurd hn h0
    · have hq' : q = some ⟨b, m * ei.size, none⟩ := by rw [hq h0]; simp [addr_add]
      subst hq'
      have hbw := hok.sub b _ (Hp.upd_same _ _ _)
      have hsplit : vs.flatten = (vs.take m).flatten ++ (vs.drop m).flatten := by rw [← List.flatten_append, List.take_append_drop]
      have hpre : (vs.take m).flatten.length = m * ei.size := by rw [flat_len (fun v hv => hN.1 v (List.mem_of_mem_take hv)), List.length_take, Nat.min_eq_left hm]
      have hzs : (Builtin.zeroCells z.cells n).toList = (List.replicate n (cellsL z)).flatten := by
        rw [← range_mod _ n]
        have e1 : z.cells = (cellsL z).toArray := by rw [← cellsL_eq]
        simp [Builtin.zeroCells, e1]
      have hlen : (List.replicate n (cellsL z)).flatten.length = (vs.drop m).flatten.length := by
        rw [flat_len (k := ei.size) (fun v hv => by rw [(List.mem_replicate.1 hv).2, hzl]), flat_len (fun v hv => hN.1 v (List.mem_of_mem_drop hv))]
        simp [hn]
      have hput : putL (vs.flatten ++ sp) (m * ei.size) (List.replicate n (cellsL z)).flatten = (vs.take m ++ List.replicate n (cellsL z)).flatten ++ sp := by
        have := putL_append_mid (List.replicate n (cellsL z)).flatten (vs.take m).flatten (vs.drop m).flatten sp hlen
        rw [hpre] at this
        rw [hsplit, List.append_assoc, this]; simp
      have hst := run_storeCells_blk (P := cx.P) (b := b) (o := m * ei.size) (T := E) (List.replicate n (cellsL z)).flatten 0 w (vs.flatten ++ sp) hbw (by
        rw [hlen, hsplit]; simp only [List.length_append, hpre]; omega) (fun v hv => by
        obtain ⟨u, hu1, hu2⟩ := List.mem_flatten.1 hv
        rw [(List.mem_replicate.1 hu1).2] at hu2
        exact allOne_spec hone v hu2)
      simp only [Nat.add_zero, hput] at hst
      obtain ⟨n', rfl⟩ : ∃ n', n = n' + 1 := ⟨n - 1, by omega⟩
      have hr : (execOp a.eval { dst := dst, op := .call { callee := .builtin .clear, args := #[x], argTypes := #[T] }, type := ty, pos := pos, after := after, guard := none }).run cx.P w = .ok (.value (.tuple #[])) (World.setBlk w b (.cells ((vs.take m ++ List.replicate (n' + 1) (cellsL z)).flatten ++ sp).toArray E (0, 0))) := by
        simp only [execOp, resolve, invoke, builtin, List.map_toArray, List.map_cons, List.map_nil, ex, Sem.run_bind, Sem.run_pure, Result.andThen_ok, Builtin.clear_, List.getElem?_toArray, List.getElem?_cons_zero, hun, hzr, hzs, hst]
      obtain ⟨σ', hp, hW⟩ := hk (X0.upd b (.cells ((vs.take m ++ List.replicate (n' + 1) (cellsL z)).flatten ++ sp).toArray E (0, 0))) (by
        refine ⟨fun v hv => ?_, .inr ⟨b, sp, rfl, hb0, rfl, ?_, ?_⟩⟩
        · rcases List.mem_append.1 hv with h | h
          · exact hN.1 v (List.mem_of_mem_take h)
          · rw [(List.mem_replicate.1 h).2, hzl]
        · rw [← hl1, ← hput, putL_length]
        · simp only [List.length_append, List.length_take, List.length_replicate]; omega)
      rw [hr]
      refine hW _ _ ρ (Ok.put (h := ?_) hp trivial)
      have := hok.setX (b := b) (cs' := (vs.take m ++ List.replicate (n' + 1) (cellsL z)).flatten ++ sp) (Hp.upd_same _ _ _)
      rw [upd_upd] at this
      exact this
end
end Go.Fw
