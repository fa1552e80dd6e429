import Derived.Test.YtdpfakplphlbgaaGreatDoorMa
/- append. -/
namespace Go.Fw
open Go.RowKit
theorem nextcap_le (need cap : Nat) (h : cap < need) : Builtin.nextslicecap need cap ≤ 2 * need + 768 := by
  have grow : ∀ (r c : Nat), c ≤ 2 * need + 768 → Builtin.growBy need r c ≤ 2 * need + 768 := by
    intro r
    induction r with
    | zero => intro c hc; simpa [Builtin.growBy] using hc
    | succ r ih =>
      intro c hc
      simp only [Builtin.growBy]
      split
      · exact hc
      · exact ih _ (by omega)
  unfold Builtin.nextslicecap
  split
  · omega
  · split
    · omega
    · exact grow 4 cap (by omega)
section
variable {cx : Cx} {k k' : List It} {σ σ' : Fm} {H H' : Own} {nl nl' : Nat} {X : Hp} {a : Act} {w : World} {ρ : Nat → Nat × Nat} {te : Te} {s : SV} {ops : Array Oper} {o : Oper} {rest : List Oper}
/-- What is appended: m elements of k cells, news. -/
def Src (cx : Cx) (σ : Fm) (H : Own) (nl : Nat) (X : Hp) (sz : Nat) (y : Operand) (m : Nat) (news : List Value) : Prop :=
  ∀ a w ρ, Ok cx σ H nl X a w ρ → (Builtin.lenOf (a.eval y)).run cx.P w = .ok m w ∧ (Builtin.firstCells sz m (a.eval y)).run cx.P w = .ok news.toArray w ∧ news.length = m * sz
theorem Src.lab {y : Operand} {l off m c sz : Nat} {B : Blk} {news : List Value} (hy : ev σ y = some (.sl l off m c)) (hB : look H l = some B) (hs : slc B.cells off (m * sz) = some news) : Src cx σ H nl X sz y m news := by
  intro a w ρ hok
  have ey := hok.eval hy trivial
  simp only [SV.den] at ey
  have hl := run_loadCells_win (P := cx.P) (hok.heap hB) hs
  exact ⟨by simp [Builtin.lenOf, ey], by simp [Builtin.firstCells, ey, hl], (slc_spec hs).1⟩
theorem loadCells_zero {P : Program} (p : Addr) (w : World) : (loadCells p 0).run P w = .ok #[] w := by simp [loadCells, loadCellsFrom]
theorem Src.row {y : Operand} {p : Option Addr} {m c sz : Nat} {E : TypeId} {vs : List (List Value)} (hy : ev σ y = some (.v (.slice p m c))) (hA : Arr X E sz p vs) (hm : m = vs.length) : Src cx σ H nl X sz y m vs.flatten := by
  intro a w ρ hok
  have ey := hok.eval hy trivial
  simp only [SV.den] at ey
  have hlen : vs.flatten.length = m * sz := by
    have : ∀ (l : List (List Value)), (∀ v ∈ l, v.length = sz) → l.flatten.length = l.length * sz := by
      intro l
      induction l with
      | nil => intro _; simp
      | cons v l ih => intro h; simp only [List.flatten_cons, List.length_append, List.length_cons]; rw [h v (by simp), ih (fun u hu => h u (by simp [hu])), Nat.succ_mul]; omega
    rw [this vs hA.uni, hm]
  refine ⟨by simp [Builtin.lenOf, ey], ?_, hlen⟩
  by_cases hne : vs = []
  · subst hne
    simp at hm
    subst hm
    cases p <;> simp [Builtin.firstCells, ey, loadCells_zero]
  · obtain ⟨b, off, fz, cs, rfl, hX, hc⟩ := hA.flat hne
    have hw : Win w (b, off) vs.flatten := ⟨cs, E, fz, hok.sub _ _ hX, hc⟩
    have hs : slc vs.flatten 0 (m * sz) = some vs.flatten := by
      rw [← hlen]
      have : ∀ l : List Value, tkL l l.length = some l := by
        intro l
        induction l with
        | nil => rfl
        | cons x l ih => simp [tkL, ih]
      have h2 := this vs.flatten
      cases hf : vs.flatten with
      | nil => rfl
      | cons x l => rw [hf] at h2; exact h2
    have hl := run_loadCells_win (P := cx.P) hw hs
    simp only [Nat.add_zero] at hl
    simp [Builtin.firstCells, ey, hl]
theorem Src.text {y : Operand} {t : ByteArray} {m : Nat} (hy : ev σ y = some (.v (.string t))) (hm : m = t.size) : Src cx σ H nl X 1 y m (t.data.toList.map fun b => .int .u8 b.toNat) := by
  intro a w ρ hok
  have ey := hok.eval hy trivial
  simp only [SV.den] at ey
  subst hm
  have hx : t.extract 0 t.size = t := by simp
  refine ⟨by simp [Builtin.lenOf, ey], ?_, by simp⟩
  simp only [Builtin.firstCells, ey, hx, Sem.run_pure]
  congr 1
  apply Array.ext'
  simp
theorem run_askRoom {P : Program} (n : Nat) (w : World) : (askRoom n).run P w = .ok () w := by
  unfold askRoom; split <;> simp [mark, Sem.run]
theorem run_appendCap {P : Program} (need old : Nat) (e : TypeId) (w : World) : ∃ c, need ≤ c ∧ (choose (.appendCap need old e)).run P w = .ok c { w with drawn := w.drawn + 1 } :=
  ⟨(Question.appendCap need old e).cut (w.tape w.drawn (.appendCap need old e)), Nat.le_add_right _ _, rfl⟩
/-- The type of what is appended is a slice's, or a text's. -/
def notInt (te : Te) (U : TypeId) : Bool :=
  match te U with
  | some i => match i.desc with
    | .slice _ => true
    | .string => true
    | _ => false
  | none => false
theorem run_notInt (hte : TeOk cx.P te) {U : TypeId} (h : notInt te U = true) (w : World) : (∃ e, (underlying U).run cx.P w = .ok (.slice e) w) ∨ (underlying U).run cx.P w = .ok .string w := by
  unfold notInt at h
  split at h
  · rename_i i hi
    have hu := run_und w (hte _ _ hi)
    split at h
    · rename_i e hd; rw [hd] at hu; exact .inl ⟨e, hu⟩
    · rename_i hd; rw [hd] at hu; exact .inr hu
    · cases h
  · cases h
theorem run_append_grow (hte : TeOk cx.P te) {T U E ty : TypeId} {ti ei : TI} {base : Option Addr} {n cap m : Nat} {x : Value} {news olds : List Value} (ht : te T = some ti) (hd : ti.desc = .slice E) (he : te E = some ei) (hU : notInt te U = true)
    (hlen : (Builtin.lenOf x).run cx.P w = .ok m w) (hnews : (Builtin.firstCells ei.size m x).run cx.P { w with drawn := w.drawn + 1 } = .ok news.toArray { w with drawn := w.drawn + 1 })
    (holds : (Builtin.firstCells ei.size n (.slice base n cap)).run cx.P { w with drawn := w.drawn + 1 } = .ok olds.toArray { w with drawn := w.drawn + 1 })
    (hz : ei.zero ≠ none) (hsmall : n + m ≤ 2147483648) (hby : ei.bytes ≤ 1024) (hcap : cap < n + m) :
    ∃ cap' sp, n + m ≤ cap' ∧ sp.length = (cap' - (n + m)) * (cellsL (ei.zero.getD undef)).length ∧ (Builtin.append_ #[T, U] ty #[.slice base n cap, x]).run cx.P w = .ok (.slice (some ⟨w.heap.size, 0, none⟩) (n + m) cap') { w with drawn := w.drawn + 1, heap := w.heap.push (.cells (olds ++ news ++ sp).toArray E) } := by
  obtain ⟨z, hz'⟩ := Option.ne_none_iff_exists'.1 hz
  have hu := run_und w (hte _ _ ht)
  rw [hd] at hu
  have hs := run_size w (hte _ _ he)
  obtain ⟨f, hb1, hb2, _⟩ := run_bytes w (hte _ _ he)
  obtain ⟨f', hb1', hb2', _⟩ := run_bytes { w with drawn := w.drawn + 1 } (hte _ _ he)
  have hzr := run_zero { w with drawn := w.drawn + 1 } (hte _ _ he) hz'
  obtain ⟨c, hc1, hc2⟩ := run_appendCap (P := cx.P) (n + m) cap E w
  have hnc := nextcap_le (n + m) cap hcap
  have hmul : Builtin.nextslicecap (n + m) cap * f.bytes ≤ 2 ^ 48 := by
    rw [hb2]
    calc Builtin.nextslicecap (n + m) cap * ei.bytes ≤ (2 * (n + m) + 768) * 1024 := Nat.mul_le_mul hnc hby
      _ ≤ 2 ^ 48 := by omega
  have hmax : ¬ (((n + m : Nat) : Int) > IntKind.i64.max) := by
    have : IntKind.i64.max = 9223372036854775807 := by decide
    omega
  refine ⟨c, (Builtin.zeroCells z.cells (c - (n + m))).toList, hc1, ?_, ?_⟩
  · simp [Builtin.zeroCells, hz', ← cellsL_eq]
  · have h1 : ¬ (n + m ≤ cap) := by omega
    have hno : ¬ (((n + m : Nat) : Int) > IntKind.i64.max ∧ (False ∨ f.bytes = 0)) := fun h => hmax h.1
    have hno2 : ¬ (Builtin.nextslicecap (n + m) cap * f.bytes > 2 ^ 48) := by omega
    unfold Builtin.append_
    simp only [List.getElem?_toArray, List.getElem?_cons_zero, List.getElem?_cons_succ, Sem.run_bind, hu, hs, Result.andThen_ok]
    rcases run_notInt hte hU w with ⟨e, hud⟩ | hud
    all_goals
      rw [hud]
      simp only [Bool.false_eq_true, if_false, Sem.run_bind, Sem.run_pure, hlen, Result.andThen_ok, if_neg h1, hb1, if_neg hno, if_neg hno2, hc2, hb1', run_askRoom, holds, Bool.not_false, if_true, hnews, hzr, run_newRow]
      simp only [Result.ok.injEq, World.mk.injEq, and_true, true_and]
      congr 2
      apply Array.ext'
      simp
theorem run_append_none (hte : TeOk cx.P te) {T U E ty : TypeId} {ti ei : TI} {x : Value} {news : List Value} (ht : te T = some ti) (hd : ti.desc = .slice E) (he : te E = some ei) (hU : notInt te U = true)
    (hlen : (Builtin.lenOf x).run cx.P w = .ok 0 w) (hnews : (Builtin.firstCells ei.size 0 x).run cx.P w = .ok news.toArray w) :
    (Builtin.append_ #[T, U] ty #[.slice none 0 0, x]).run cx.P w = .ok (.slice none 0 0) w := by
  have hu := run_und w (hte _ _ ht)
  rw [hd] at hu
  have hs := run_size w (hte _ _ he)
  unfold Builtin.append_
  simp only [List.getElem?_toArray, List.getElem?_cons_zero, List.getElem?_cons_succ, Sem.run_bind, hu, hs, Result.andThen_ok]
  rcases run_notInt hte hU w with ⟨e, hud⟩ | hud
  all_goals
    rw [hud]
    simp only [Bool.false_eq_true, if_false, Sem.run_bind, Sem.run_pure, hlen, Result.andThen_ok, Nat.add_zero, Nat.le_refl, if_true, Bool.not_false, hnews]
theorem run_append_room (hte : TeOk cx.P te) {T U E ty : TypeId} {ti ei : TI} {b o n cap m : Nat} {x : Value} {news cs : List Value} (ht : te T = some ti) (hd : ti.desc = .slice E) (he : te E = some ei) (hU : notInt te U = true)
    (hlen : (Builtin.lenOf x).run cx.P w = .ok m w) (hnews : (Builtin.firstCells ei.size m x).run cx.P w = .ok news.toArray w)
    (hcap : n + m ≤ cap) (hb : w.heap[b]? = some (.cells cs.toArray E (0, 0))) (hroom : o + n * ei.size + news.length ≤ cs.length) (hone : ∀ v ∈ news, one v = true) :
    (Builtin.append_ #[T, U] ty #[.slice (some ⟨b, o, none⟩) n cap, x]).run cx.P w = .ok (.slice (some ⟨b, o, none⟩) (n + m) cap) (World.setBlk w b (.cells (putL cs (o + n * ei.size) news).toArray E (0, 0))) := by
  have hu := run_und w (hte _ _ ht)
  rw [hd] at hu
  have hs := run_size w (hte _ _ he)
  have hst := run_storeCells_blk (P := cx.P) (o := o + n * ei.size) news 0 w cs hb (by omega) hone
  unfold Builtin.append_
  simp only [List.getElem?_toArray, List.getElem?_cons_zero, List.getElem?_cons_succ, Sem.run_bind, hu, hs, Result.andThen_ok]
  rcases run_notInt hte hU w with ⟨e, hud⟩ | hud
  all_goals
    rw [hud]
    simp only [Bool.false_eq_true, if_false, Sem.run_bind, Sem.run_pure, hlen, Result.andThen_ok, if_pos hcap, Bool.not_false, if_true, hnews, addr_add, hst]
    simp

/-! ## slices that a call makes: they lie in the partial heap, in a block of their own -/
def Le (X X' : Hp) : Prop := ∀ b o, X b = some o → X' b = some o
theorem Le.refl (X : Hp) : Le X X := fun _ _ h => h
theorem Le.trans {X Y Z : Hp} (h : Le X Y) (k : Le Y Z) : Le X Z := fun b o e => k b o (h b o e)
theorem Le.ck {X X' : Hp} (h : Le X X') : CK X X' := fun b _ _ _ e => h b _ e
theorem Le.upd {X : Hp} {b : Nat} (o : Obj) (h : X b = none) : Le X (X.upd b o) := fun c p e => by
  rw [Hp.upd_ne _ _ (fun e' => by rw [e', h] at e; cases e)]; exact e
/-- X is X0, and (if there is any) a block of its own in which vs lie, with room behind. -/
def New (X0 X : Hp) (E : TypeId) (k : Nat) (a : Option Addr) (c : Nat) (vs : List (List Value)) : Prop :=
  (∀ v ∈ vs, v.length = k) ∧ ((vs = [] ∧ a = none ∧ c = 0 ∧ X = X0) ∨
    ∃ b sp, a = some ⟨b, 0, none⟩ ∧ X0 b = none ∧ X = X0.upd b (.cells (vs.flatten ++ sp).toArray E (0, 0)) ∧ (vs.flatten ++ sp).length = c * k ∧ vs.length ≤ c)
theorem New.nil (X : Hp) (E : TypeId) (k : Nat) : New X X E k none 0 [] := ⟨(fun _ h => by cases h), .inl ⟨rfl, rfl, rfl, rfl⟩⟩
theorem New.le {X0 X : Hp} {E : TypeId} {k : Nat} {a : Option Addr} {c : Nat} {vs : List (List Value)} (h : New X0 X E k a c vs) : Le X0 X := by
  rcases h.2 with ⟨_, _, _, rfl⟩ | ⟨b, sp, _, hb, rfl, _⟩
  · exact Le.refl _
  · exact Le.upd _ hb
theorem flat_len {k : Nat} : ∀ {l : List (List Value)}, (∀ v ∈ l, v.length = k) → l.flatten.length = l.length * k := by
  intro l
  induction l with
  | nil => intro _; simp
  | cons v l ih => intro h; simp only [List.flatten_cons, List.length_append, List.length_cons]; rw [h v (by simp), ih (fun u hu => h u (by simp [hu])), Nat.succ_mul]; omega
theorem flat_get {k : Nat} : ∀ {l : List (List Value)} {i : Nat} {v : List Value}, (∀ v ∈ l, v.length = k) → l[i]? = some v → ∀ j, j < k → l.flatten[i * k + j]? = v[j]? := by
  intro l
  induction l with
  | nil => intro i v _ h; cases h
  | cons u l ih =>
    intro i v hu hi j hj
    have hul := hu u (by simp)
    cases i with
    | zero =>
      simp at hi; subst hi
      rw [List.flatten_cons, Nat.zero_mul, Nat.zero_add, List.getElem?_append_left (by omega)]
    | succ i =>
      rw [List.flatten_cons, List.getElem?_append_right (by rw [hul, Nat.succ_mul]; omega), hul, Nat.succ_mul, show i * k + k + j - k = i * k + j by omega]
      exact ih (fun w hw => hu w (by simp [hw])) (by simpa using hi) j hj
theorem New.arr {X0 X : Hp} {E : TypeId} {k : Nat} {a : Option Addr} {c : Nat} {vs : List (List Value)} (h : New X0 X E k a c vs) : Arr X E k a vs := by
  refine ⟨h.1, ?_⟩
  rcases h.2 with ⟨rfl, _, _, _⟩ | ⟨b, sp, rfl, hb, rfl, _⟩
  · exact .inl rfl
  · refine .inr ⟨b, 0, (0, 0), _, rfl, Hp.upd_same _ _ _, fun i v hi j hj => ?_⟩
    have hlt : i < vs.length := by
      rcases Nat.lt_or_ge i vs.length with h' | h'
      · exact h'
      · simp [List.getElem?_eq_none h'] at hi
    have hfl := flat_len h.1
    have hle : i * k + j < vs.flatten.length := by
      rw [hfl]
      have : (i + 1) * k ≤ vs.length * k := Nat.mul_le_mul_right _ hlt
      rw [Nat.succ_mul] at this; omega
    simp only [Nat.zero_add, List.getElem?_toArray]
    rw [List.getElem?_append_left hle]
    exact flat_get h.1 hi j hj
theorem New.cap {X0 X : Hp} {E : TypeId} {k : Nat} {a : Option Addr} {c : Nat} {vs : List (List Value)} (h : New X0 X E k a c vs) : vs.length ≤ c := by
  rcases h.2 with ⟨rfl, _, rfl, _⟩ | ⟨b, sp, _, _, _, _, h⟩
  · simp
  · exact h
theorem upd_upd (X : Hp) (b : Nat) (o o' : Obj) : (X.upd b o).upd b o' = X.upd b o' := by
  funext i; simp only [Hp.upd]; split <;> rfl
/-- Only the blocks that are the call's. -/
def dropX : Own → Own
  | [] => []
  | (l, B) :: r => match B with
    | .ext _ _ _ _ => delO l (dropX r)
    | B => (l, B) :: dropX r
theorem look_dropX : ∀ {G : Own} {i : Nat} {B : Blk}, look (dropX G) i = some B → look G i = some B ∧ B.mine = true := by
  intro G
  induction G with
  | nil => intro i B h; cases h
  | cons p G ih =>
    intro i B h
    obtain ⟨u, C⟩ := p
    have mine : ∀ D : Blk, C = D → D.mine = true → dropX ((u, C) :: G) = (u, C) :: dropX G → look ((u, C) :: G) i = some B ∧ B.mine = true := fun D hD hm e => by
      rw [e] at h
      by_cases he : u = i
      · subst he
        rw [look_cons_self] at h
        obtain rfl := Option.some.inj h
        exact ⟨look_cons_self _ _ _, hD ▸ hm⟩
      · rw [look_cons_ne _ _ he] at h
        rw [look_cons_ne _ _ he]; exact ih h
    cases C with
    | own T cs => exact mine _ rfl rfl rfl
    | bor b T cs => exact mine _ rfl rfl rfl
    | ext b o T cs =>
      simp only [dropX] at h
      obtain ⟨h1, h2⟩ := look_del h
      rw [look_cons_ne _ _ (Ne.symm h1)]
      exact ih h2
/-- Behind a step that changes no block of the call's and lays or changes just one block of the partial heap. -/
theorem Ok.swap (hok : Ok cx σ H nl X a w ρ) {b : Nat} {o : Obj} {w' : World} (hb : w'.heap[b]? = some o) (hsame : ∀ i p, i ≠ b → w.heap[i]? = some p → w'.heap[i]? = some p) (hfree : cx.Free b) (hown : ∀ l B, look H l = some B → B.mine = true → (ρ l).1 ≠ b)
    (hos : w'.os = w.os) (htape : w'.tape = w.tape) (hout : w'.output = w.output) (hdr : w.drawn ≤ w'.drawn) (hsz : w.heap.size ≤ w'.heap.size) : Ok cx σ (dropX H) nl (X.upd b o) a w' ρ := by
  refine ⟨hok.size, hok.defers, hok.val, hok.lab, ?_, ?_, ?_, ?_, ?_⟩
  · intro l B hl
    obtain ⟨h1, h2⟩ := look_dropX hl
    obtain ⟨h3, h4⟩ := hok.blk l B h1
    refine ⟨h3, ?_⟩
    have hne := hown l B h1 h2
    cases B with
    | own T cs => exact ⟨h4.1, hsame _ _ hne h4.2.1, by rw [Hp.upd_ne _ _ hne]; exact h4.2.2.1, h4.2.2.2⟩
    | bor c T cs => exact ⟨h4.1, hsame _ _ hne h4.2.1, by rw [Hp.upd_ne _ _ hne]; exact h4.2.2.1, h4.2.2.2⟩
    | ext c o T cs => cases h2
  · intro l l' B B' h1 h2
    exact hok.inj l l' B B' (look_dropX h1).1 (look_dropX h2).1
  · intro i p hi
    by_cases e : i = b
    · subst e; rw [Hp.upd_same] at hi; obtain rfl := Option.some.inj hi; exact hb
    · rw [Hp.upd_ne _ _ e] at hi; exact hsame i p e (hok.sub i p hi)
  · refine ⟨hos.trans hok.ev.os, htape.trans hok.ev.tape, hout.trans hok.ev.output, Nat.le_trans hok.ev.drawn hdr, Nat.le_trans hok.ev.size hsz, fun i p hi hx => ?_⟩
    refine hsame i p (fun e => ?_) (hok.ev.keep i p hi hx)
    subst e
    rcases hfree with h | h
    · exact h hx
    · have := lt_of_heap hi; omega
  · intro i hi
    by_cases e : i = b
    · subst e; exact hfree
    · rw [Hp.upd_ne _ _ e] at hi; exact hok.dom i hi
theorem Ok.mine_none (hok : Ok cx σ H nl X a w ρ) {l : Nat} {B : Blk} (hl : look H l = some B) (hm : B.mine = true) : X (ρ l).1 = none ∧ (ρ l).1 < w.heap.size := by
  have h2 := (hok.blk l B hl).2
  cases B with
  | own T cs => exact ⟨h2.2.2.1, lt_of_heap h2.2.1⟩
  | bor b T cs => exact ⟨h2.2.2.1, lt_of_heap h2.2.1⟩
  | ext b o T cs => cases hm
theorem Ok.x_none (hok : Ok cx σ H nl X a w ρ) : X w.heap.size = none := by
  cases e : X w.heap.size with
  | none => rfl
  | some o => have := lt_of_heap (hok.sub _ o e); omega
theorem putL_append : ∀ (vs pre post : List Value), vs.length ≤ post.length → putL (pre ++ post) pre.length vs = pre ++ vs ++ post.drop vs.length := by
  intro vs
  induction vs with
  | nil => intro pre post _; simp [putL]
  | cons v vs ih =>
    intro pre post h
    cases post with
    | nil => simp at h
    | cons p post =>
      have hs : (pre ++ p :: post).set pre.length v = (pre ++ [v]) ++ post := by
        rw [List.set_append_right _ _ (Nat.le_refl _)]; simp
      simp only [putL, hs]
      have := ih (pre ++ [v]) post (by simpa using h)
      simp only [List.length_append, List.length_cons, List.length_nil] at this
      rw [this]; simp
/-- append onto a slice that the call made (or a nil one). -/
theorem W_app (hte : TeOk cx.P te) {T U E : TypeId} {x y : Operand} {dst : Option Tmp} {ty : TypeId} {pos : String} {after : Array Edge} {X0 : Hp} {p : Option Addr} {n c m : Nat} {ti ei : TI} {vs us : List (List Value)}
    (hx : ev σ x = some (.v (.slice p n c))) (ht : te T = some ti) (hd : ti.desc = .slice E) (he : te E = some ei) (hU : notInt te U = true) (hz : ei.zero.isSome = true) (hzl : (cellsL (ei.zero.getD undef)).length = ei.size) (hby : ei.bytes ≤ 1024)
    (hN : New X0 X E ei.size p c vs) (hn : n = vs.length) (hus : ∀ u ∈ us, u.length = ei.size) (hm : m = us.length) (hS : Src cx σ H nl X ei.size y m us.flatten) (hone : ∀ v ∈ us.flatten, one v = true) (hsmall : n + m ≤ 2147483648)
    (hk : ∀ p' c' X', New X0 X' E ei.size p' c' (vs ++ us) → ∃ σ', putS cx.n dst (.v (.slice p' (n + m) c')) σ = some σ' ∧ W cx (.rg ops rest :: k) σ' (dropX H) nl X') :
    W cx (.rg ops ({ dst := dst, op := .call { callee := .builtin .append, args := #[x, y], argTypes := #[T, U] }, type := ty, pos := pos, after := after, guard := none } :: rest) :: k) σ H nl X := by
  intro a w ρ hok
  refine run_op rfl ?_
  have ex := hok.eval hx trivial
  simp only [SV.den] at ex
  obtain ⟨hlen, hnews, hnl⟩ := hS a w ρ hok
  obtain ⟨hlen', hnews', _⟩ := hS a _ ρ hok.drew
  have hexec : ∀ r w', (Builtin.append_ #[T, U] ty #[.slice p n c, a.eval y]).run cx.P w = .ok r w' → (execOp a.eval { dst := dst, op := .call { callee := .builtin .append, args := #[x, y], argTypes := #[T, U] }, type := ty, pos := pos, after := after, guard := none }).run cx.P w = .ok (.value r) w' := fun r w' h => by
    simp [execOp, resolve, invoke, builtin, ex, h]
  have hun : ∀ v ∈ vs ++ us, v.length = ei.size := fun v hv => by
    rcases List.mem_append.1 hv with h | h
    · exact hN.1 v h
    · exact hus v h
  have hfvs := flat_len hN.1
  have hfus := flat_len hus
  rcases Nat.lt_or_ge c (n + m) with hcap | hcap
  · -- a new block
    have holds : ∃ olds, olds = vs.flatten ∧ (Builtin.firstCells ei.size n (.slice p n c)).run cx.P { w with drawn := w.drawn + 1 } = .ok olds.toArray { w with drawn := w.drawn + 1 } := by
      refine ⟨_, rfl, ?_⟩
      have h1 := Src.row (y := x) hx hN.arr hn a _ ρ hok.drew
      rw [ex] at h1
      exact h1.2.1
    obtain ⟨olds, rfl, holds⟩ := holds
    obtain ⟨c', sp, hc', hsp, hrun⟩ := run_append_grow (w := w) (ty := ty) (olds := vs.flatten) hte ht hd he hU hlen hnews' holds (by intro e; rw [e] at hz; cases hz) hsmall hby hcap
    have hX0 : X0 w.heap.size = none := by
      cases e : X0 w.heap.size with
      | none => rfl
      | some o => have := hok.x_none; rw [hN.le _ o e] at this; cases this
    have hnew : New X0 (X0.upd w.heap.size (.cells ((vs ++ us).flatten ++ sp).toArray E (0, 0))) E ei.size (some ⟨w.heap.size, 0, none⟩) c' (vs ++ us) := by
      refine ⟨hun, .inr ⟨w.heap.size, sp, rfl, hX0, rfl, ?_, ?_⟩⟩
      · rw [List.length_append, flat_len hun, hsp, hzl, List.length_append, ← hn, ← hm, ← Nat.add_mul]
        congr 1; omega
      · rw [List.length_append, ← hn, ← hm]; exact hc'
    obtain ⟨σ', hp, hW⟩ := hk _ c' _ hnew
    unfold Oper.wp
    rw [hexec _ _ hrun]
    have hok' : Ok cx σ (dropX H) nl (X.upd w.heap.size (.cells ((vs ++ us).flatten ++ sp).toArray E (0, 0))) a { w with drawn := w.drawn + 1, heap := w.heap.push (.cells (vs.flatten ++ us.flatten ++ sp).toArray E) } ρ := by
      refine hok.swap (b := w.heap.size) (by simp) (fun i q hne hi => ?_) (.inr hok.ev.size) (fun l B hl hm' e => ?_) rfl rfl rfl (Nat.le_succ _) (by simp)
      · have := lt_of_heap hi
        simp only [Array.getElem?_push]; rw [if_neg (by omega)]; exact hi
      · have := (hok.mine_none hl hm').2; omega
    refine hW _ _ ρ ?_
    have hle : Sub (X0.upd w.heap.size (.cells ((vs ++ us).flatten ++ sp).toArray E (0, 0))) { w with drawn := w.drawn + 1, heap := w.heap.push (.cells (vs.flatten ++ us.flatten ++ sp).toArray E) } := fun i q hi => by
      refine hok'.sub i q ?_
      by_cases e : i = w.heap.size
      · subst e; rw [Hp.upd_same] at hi ⊢; exact hi
      · rw [Hp.upd_ne _ _ e] at hi ⊢; exact hN.le _ _ hi
    refine Ok.put (h := ?_) hp trivial
    refine ⟨hok'.size, hok'.defers, hok'.val, hok'.lab, ?_, hok'.inj, hle, hok'.ev, ?_⟩
    · intro l B hl
      obtain ⟨h1, h2⟩ := hok'.blk l B hl
      refine ⟨h1, ?_⟩
      have hm' := (look_dropX hl).2
      have hxn := (hok.mine_none (look_dropX hl).1 hm')
      have h0 : (X0.upd w.heap.size (.cells ((vs ++ us).flatten ++ sp).toArray E (0, 0))) (ρ l).1 = none := by
        rw [Hp.upd_ne _ _ (by omega)]
        cases e : X0 (ρ l).1 with
        | none => rfl
        | some q => have := hxn.1; rw [hN.le _ q e] at this; cases this
      cases B with
      | own T cs => exact ⟨h2.1, h2.2.1, h0, h2.2.2.2⟩
      | bor c T cs => exact ⟨h2.1, h2.2.1, h0, h2.2.2.2⟩
      | ext c o T cs => cases hm'
    · intro i hi
      by_cases e : i = w.heap.size
      · subst e; exact .inr hok.ev.size
      · rw [Hp.upd_ne _ _ e] at hi
        refine hok.dom i (fun e' => hi ?_)
        cases e'' : X0 i with
        | none => rfl
        | some q => rw [hN.le _ q e''] at e'; cases e'
  · -- there is room
    rcases hN.2 with ⟨rfl, rfl, rfl, rfl⟩ | ⟨b, sp, rfl, hb0, rfl, hl1, hl2⟩
    · have hm0 : m = 0 := by omega
      have hus0 : us = [] := List.eq_nil_of_length_eq_zero (by omega)
      subst hus0
      have hn0 : n = 0 := by simpa using hn
      subst hn0
      subst hm0
      have hrun := run_append_none (w := w) (ty := ty) hte ht hd he hU hlen hnews
      obtain ⟨σ', hp, hW⟩ := hk none 0 _ (by simpa using New.nil _ E ei.size)
      unfold Oper.wp
      rw [hexec _ _ hrun]
      refine hW _ _ ρ ?_
      refine Ok.put (h := ?_) hp trivial
      exact hok.weaken (fun _ _ e => e) (fun l C hl => (look_dropX hl).1)
    · have hbw := hok.sub b _ (Hp.upd_same _ _ _)
      have hsplen : us.flatten.length ≤ sp.length := by
        rw [List.length_append, hfvs, ← hn] at hl1
        rw [hfus, ← hm]
        have : (n + m) * ei.size ≤ c * ei.size := Nat.mul_le_mul_right _ hcap
        rw [Nat.add_mul] at this; omega
      have hput : putL (vs.flatten ++ sp) (n * ei.size) us.flatten = (vs ++ us).flatten ++ sp.drop us.flatten.length := by
        have := putL_append us.flatten vs.flatten sp hsplen
        rw [hfvs, ← hn] at this
        rw [this]; simp
      have hrun := run_append_room (w := w) (ty := ty) (o := 0) hte ht hd he hU hlen hnews hcap hbw (by
        rw [List.length_append, hfvs, ← hn]; omega) hone
      rw [Nat.zero_add, hput] at hrun
      have hnew : New X0 (X0.upd b (.cells ((vs ++ us).flatten ++ sp.drop us.flatten.length).toArray E (0, 0))) E ei.size (some ⟨b, 0, none⟩) c (vs ++ us) := by
        refine ⟨hun, .inr ⟨b, _, rfl, hb0, rfl, ?_, ?_⟩⟩
        · rw [List.length_append, List.length_drop, flat_len hun, hfus]
          rw [List.length_append, hfvs] at hl1
          rw [hfus] at hsplen
          rw [List.length_append, Nat.add_mul]; omega
        · rw [List.length_append, ← hn, ← hm]; exact hcap
      obtain ⟨σ', hp, hW⟩ := hk _ c _ hnew
      unfold Oper.wp
      rw [hexec _ _ hrun]
      refine hW _ _ ρ ?_
      refine Ok.put (h := ?_) hp trivial
      have hsz := lt_of_heap hbw
      have := hok.swap (b := b) (o := .cells ((vs ++ us).flatten ++ sp.drop us.flatten.length).toArray E (0, 0)) (w' := World.setBlk w b (.cells ((vs ++ us).flatten ++ sp.drop us.flatten.length).toArray E (0, 0)))
        (setBlk_heap hsz) (fun i q hne hi => by simp only [World.setBlk]; rw [Array.getElem?_setIfInBounds_ne (Ne.symm hne)]; exact hi) (hok.dom b (by rw [Hp.upd_same]; simp)) (fun l B hl hm' e => by
          have := (hok.mine_none hl hm').1; rw [e, Hp.upd_same] at this; cases this) rfl rfl rfl (Nat.le_refl _) (by simp [World.setBlk])
      rw [upd_upd] at this
      exact this
end
end Go.Fw
/- Maps with texts as keys. -/
namespace Go.Fw
open Go.RowKit
theorem ba_beq (a b : ByteArray) : (a == b) = true ↔ a = b := by
  have h : (a == b) = (a.data == b.data) := by cases a; cases b; rfl
  rw [h]; simp [ByteArray.ext_iff]
instance : ReflBEq ByteArray := ⟨fun {a} => (ba_beq a a).2 rfl⟩
instance : LawfulBEq ByteArray := ⟨fun h => (ba_beq _ _).1 h⟩
abbrev KV := List (ByteArray × Value)
def getK (s : ByteArray) : KV → Option Value
  | [] => none
  | (k, v) :: r => if s == k then some v else getK s r
def setK (s : ByteArray) (x : Value) : KV → KV
  | [] => [(s, x)]
  | (k, v) :: r => if s == k then (s, x) :: r else (k, v) :: setK s x r
def delK (s : ByteArray) : KV → KV
  | [] => []
  | (k, v) :: r => if s == k then r else (k, v) :: delK s r
/-- The entries of a map are kv, in this order. -/
structure MapAt (es : Array MapEntry) (clock : Nat) (kv : KV) : Prop where
  all : es.toList.map (fun e => (e.key, e.val)) = kv.map (fun p => (Value.string p.1, p.2))
  born : (es.toList.map (·.born)).Nodup
  lt : ∀ e ∈ es.toList, e.born < clock
  keys : (kv.map (·.1)).Nodup
def MapX (X : Hp) (r : Nat) (kv : KV) : Prop := ∃ es clock, X r = some (.map es clock) ∧ MapAt es clock kv
theorem MapAt.empty : MapAt #[] 0 [] := ⟨rfl, List.nodup_nil, (fun _ h => by cases h), List.nodup_nil⟩
/-- Where a key stands. -/
def idxK (s : ByteArray) : KV → Nat → Option (Nat × Value)
  | [], _ => none
  | (k, v) :: r, i => if s == k then some (i, v) else idxK s r (i + 1)
theorem idxK_get (s : ByteArray) : ∀ (kv : KV) (i : Nat), (idxK s kv i).map (·.2) = getK s kv := by
  intro kv
  induction kv with
  | nil => intro i; rfl
  | cons p kv ih => intro i; obtain ⟨k, v⟩ := p; simp only [idxK, getK]; split <;> simp [ih]
theorem findNow_idx (s : ByteArray) : ∀ (l : List MapEntry) (kv : KV) (i : Nat), l.map (fun e => (e.key, e.val)) = kv.map (fun p => (Value.string p.1, p.2)) → Instr.findNow .string (.string s) l i = some (idxK s kv i) := by
  intro l
  induction l with
  | nil => intro kv i h; cases kv with
    | nil => rfl
    | cons p kv => simp at h
  | cons e l ih =>
    intro kv i h
    cases kv with
    | nil => simp at h
    | cons p kv =>
      obtain ⟨k, v⟩ := p
      simp only [List.map_cons, List.cons.injEq, Prod.mk.injEq] at h
      obtain ⟨⟨h1, h2⟩, h3⟩ := h
      simp only [Instr.findNow, h1, Instr.sameNow, idxK]
      cases hb : s == k with
      | true => simp [h2]
      | false => simp [ih kv (i + 1) h3]
section
variable {cx : Cx} {k k' : List It} {σ σ' : Fm} {H H' : Own} {nl nl' : Nat} {X : Hp} {a : Act} {w : World} {ρ : Nat → Nat × Nat} {te : Te} {s : SV} {ops : Array Oper} {o : Oper} {rest : List Oper}
theorem run_findKey {P : Program} {K : TypeId} {es : Array MapEntry} {clock : Nat} {kv : KV} (hM : MapAt es clock kv) (hK : (underlying K).run P w = .ok .string w) (s : ByteArray) : (Instr.findKey K (.string s) es.toList).run P w = .ok (idxK s kv 0) w := by
  simp [Instr.findKey, hK, findNow_idx s es.toList kv 0 hM.all]
theorem run_checkKey {P : Program} {K : TypeId} (hK : (underlying K).run P w = .ok .string w) (b : Bool) (s : ByteArray) : (Instr.checkKey b 10000 K (.string s)).run P w = .ok () w := by
  have h : ∀ n, (Instr.checkKey b (n + 1) K (.string s)).run P w = .ok () w := fun n => by simp [Instr.checkKey, hK]
  exact h 9999
theorem run_getObj {P : Program} {r : Nat} {es : Array MapEntry} {clock : Nat} (h : w.heap[r]? = some (.map es clock)) : (getObj r).run P w = .ok (.map es clock) w := by
  simp [getObj, Sem.run, h]
theorem run_setObj {P : Program} {r : Nat} {es : Array MapEntry} {clock : Nat} (h : w.heap[r]? = some (.map es clock)) (o : Obj) : (setObj r o).run P w = .ok () (World.setBlk w r o) := by
  simp [setObj, Sem.run, h, World.setBlk]
structure MapT (te : Te) (T K E : TypeId) (z : Value) : Prop where
  map : ∃ i, te T = some i ∧ i.desc = .map K E
  key : ∃ i, te K = some i ∧ i.desc = .string
  zero : ∃ i, te E = some i ∧ i.zero = some z
theorem W_lookup (hte : TeOk cx.P te) {T K E : TypeId} {z : Value} (hT : MapT te T K E z) {x y : Operand} {dst : Option Tmp} {ty : TypeId} {pos : String} {after : Array Edge} {r : Nat} {kv : KV} {s : ByteArray}
    (hx : ev σ x = some (.v (.map (some r)))) (hy : ev σ y = some (.v (.string s))) (hM : MapX X r kv)
    (hp : putS cx.n dst (.v (.tuple #[(getK s kv).getD z, .bool (getK s kv).isSome])) σ = some σ') (hk : W cx (.rg ops rest :: k) σ' H nl X) :
    W cx (.rg ops ({ dst := dst, op := .lookup T x y true, type := ty, pos := pos, after := after, guard := none } :: rest) :: k) σ H nl X := by
  refine W_val (s := .v (.tuple #[(getK s kv).getD z, .bool (getK s kv).isSome])) (fun a w ρ hok => ⟨?_, trivial⟩) hp hk
  obtain ⟨⟨i1, ht1, hd1⟩, ⟨i2, ht2, hd2⟩, ⟨i3, ht3, hz⟩⟩ := hT
  obtain ⟨es, clock, hX, hA⟩ := hM
  have ex := hok.eval hx trivial
  have ey := hok.eval hy trivial
  simp only [SV.den] at ex ey
  have hu := run_und w (hte _ _ ht1)
  rw [hd1] at hu
  have hK := run_und w (hte _ _ ht2)
  rw [hd2] at hK
  have hzr := run_zero w (hte _ _ ht3) hz
  have hg := run_getObj (P := cx.P) (hok.sub _ _ hX)
  have hf := run_findKey (P := cx.P) hA hK s
  have hc := run_checkKey (P := cx.P) hK es.isEmpty s
  have hi := idxK_get s kv 0
  simp only [execOp, ex, ey, Instr.lookup, Sem.run_bind, hu, hg, Result.andThen_ok, Sem.run_pure, hc, hf]
  cases hq : idxK s kv 0 with
  | none => rw [hq] at hi; simp at hi; simp [← hi, hzr, SV.den]
  | some p => rw [hq] at hi; simp at hi; simp [← hi, SV.den]
theorem W_lookup1 (hte : TeOk cx.P te) {T K E : TypeId} {z : Value} (hT : MapT te T K E z) {x y : Operand} {dst : Option Tmp} {ty : TypeId} {pos : String} {after : Array Edge} {r : Nat} {kv : KV} {s : ByteArray}
    (hx : ev σ x = some (.v (.map (some r)))) (hy : ev σ y = some (.v (.string s))) (hM : MapX X r kv)
    (hp : putS cx.n dst (.v ((getK s kv).getD z)) σ = some σ') (hk : W cx (.rg ops rest :: k) σ' H nl X) :
    W cx (.rg ops ({ dst := dst, op := .lookup T x y false, type := ty, pos := pos, after := after, guard := none } :: rest) :: k) σ H nl X := by
  refine W_val (s := .v ((getK s kv).getD z)) (fun a w ρ hok => ⟨?_, trivial⟩) hp hk
  obtain ⟨⟨i1, ht1, hd1⟩, ⟨i2, ht2, hd2⟩, ⟨i3, ht3, hz⟩⟩ := hT
  obtain ⟨es, clock, hX, hA⟩ := hM
  have ex := hok.eval hx trivial
  have ey := hok.eval hy trivial
  simp only [SV.den] at ex ey
  have hu := run_und w (hte _ _ ht1)
  rw [hd1] at hu
  have hK := run_und w (hte _ _ ht2)
  rw [hd2] at hK
  have hzr := run_zero w (hte _ _ ht3) hz
  have hg := run_getObj (P := cx.P) (hok.sub _ _ hX)
  have hf := run_findKey (P := cx.P) hA hK s
  have hc := run_checkKey (P := cx.P) hK es.isEmpty s
  have hi := idxK_get s kv 0
  simp only [execOp, ex, ey, Instr.lookup, Sem.run_bind, hu, hg, Result.andThen_ok, Sem.run_pure, hc, hf]
  cases hq : idxK s kv 0 with
  | none => rw [hq] at hi; simp at hi; simp [← hi, hzr, SV.den]
  | some p => rw [hq] at hi; simp at hi; simp [← hi, SV.den]
/-- A step that changes one map of the partial heap. -/
theorem Ok.remap (hok : Ok cx σ H nl X a w ρ) {r : Nat} {es es' : Array MapEntry} {clock clock' : Nat} (hX : X r = some (.map es clock)) : Ok cx σ H nl (X.upd r (.map es' clock')) a (World.setBlk w r (.map es' clock')) ρ := by
  have hw := hok.sub _ _ hX
  have hsz := lt_of_heap hw
  have keep : ∀ b, b ≠ r → (World.setBlk w r (.map es' clock')).heap[b]? = w.heap[b]? := fun b hb => by
    simp only [World.setBlk]; rw [Array.getElem?_setIfInBounds_ne (Ne.symm hb)]
  have hfree : cx.Free r := hok.dom r (by rw [hX]; simp)
  refine ⟨hok.size, hok.defers, hok.val, hok.lab, ?_, hok.inj, ?_, ?_, ?_⟩
  · intro l B hl
    obtain ⟨h1, h2⟩ := hok.blk l B hl
    refine ⟨h1, ?_⟩
    have hne : B.mine = true → (ρ l).1 ≠ r := fun hm e => by have := (hok.mine_none hl hm).1; rw [e, hX] at this; cases this
    cases B with
    | own T cs => exact ⟨h2.1, by rw [keep _ (hne rfl)]; exact h2.2.1, by rw [Hp.upd_ne _ _ (hne rfl)]; exact h2.2.2.1, h2.2.2.2⟩
    | bor c T cs => exact ⟨h2.1, by rw [keep _ (hne rfl)]; exact h2.2.1, by rw [Hp.upd_ne _ _ (hne rfl)]; exact h2.2.2.1, h2.2.2.2⟩
    | ext c o T cs =>
      obtain ⟨e, full, fz, hx, hc⟩ := h2
      exact ⟨e, full, fz, by rw [Hp.upd_ne _ _ (fun e' => by rw [e', hX] at hx; cases hx)]; exact hx, hc⟩
  · intro i p hi
    by_cases e : i = r
    · subst e; rw [Hp.upd_same] at hi; obtain rfl := Option.some.inj hi; exact setBlk_heap hsz
    · rw [Hp.upd_ne _ _ e] at hi; rw [keep i e]; exact hok.sub i p hi
  · refine ⟨hok.ev.os, hok.ev.tape, hok.ev.output, hok.ev.drawn, ?_, fun i p hi hx => ?_⟩
    · have := hok.ev.size; simpa [World.setBlk] using this
    · rw [keep i (fun e => by
        subst e
        rcases hfree with h | h
        · exact h hx
        · have := lt_of_heap hi; omega)]
      exact hok.ev.keep i p hi hx
  · intro i hi
    by_cases e : i = r
    · subst e; exact hfree
    · rw [Hp.upd_ne _ _ e] at hi; exact hok.dom i hi
theorem setK_at {es : Array MapEntry} {clock : Nat} {kv : KV} (hM : MapAt es clock kv) (s : ByteArray) (x : Value) :
    (∀ i v, idxK s kv 0 = some (i, v) → MapAt (es.modify i fun e => { e with key := .string s, val := x }) clock (setK s x kv)) ∧
    (idxK s kv 0 = none → MapAt (es.push { key := .string s, val := x, born := clock }) (clock + 1) (setK s x kv)) := by
  have gen : ∀ (l : List MapEntry) (kv : KV) (j : Nat), l.map (fun e => (e.key, e.val)) = kv.map (fun p => (Value.string p.1, p.2)) →
      (∀ i v, idxK s kv j = some (i, v) → j ≤ i ∧ (l.modify (i - j) fun e => { e with key := .string s, val := x }).map (fun e => (e.key, e.val)) = (setK s x kv).map (fun p => (Value.string p.1, p.2)) ∧ (setK s x kv).map (·.1) = kv.map (·.1)) ∧
      (idxK s kv j = none → setK s x kv = kv ++ [(s, x)] ∧ s ∉ kv.map (·.1)) := by
    intro l
    induction l with
    | nil =>
      intro kv j h
      cases kv with
      | nil => exact ⟨(fun i v hi => by cases hi), fun _ => ⟨rfl, by simp⟩⟩
      | cons p kv => simp at h
    | cons e l ih =>
      intro kv j h
      cases kv with
      | nil => simp at h
      | cons p kv =>
        obtain ⟨k, v⟩ := p
        simp only [List.map_cons, List.cons.injEq, Prod.mk.injEq] at h
        obtain ⟨⟨h1, h2⟩, h3⟩ := h
        obtain ⟨ih1, ih2⟩ := ih kv (j + 1) h3
        simp only [idxK, setK]
        cases hb : s == k with
        | true =>
          have hsk : s = k := by simpa using hb
          refine ⟨fun i v hi => ?_, fun hn => by simp at hn⟩
          simp only [if_true, Option.some.injEq, Prod.mk.injEq] at hi
          obtain ⟨rfl, rfl⟩ := hi
          simp [h3, hsk]
        | false =>
          have hsk : ¬ s = k := by simpa using hb
          simp only [Bool.false_eq_true, if_false]
          refine ⟨fun i v' hi => ?_, fun hn => ?_⟩
          · obtain ⟨g1, g2, g3⟩ := ih1 i v' hi
            refine ⟨by omega, ?_, by simp [g3]⟩
            rw [show i - j = (i - (j + 1)) + 1 by omega]
            simp [h1, h2, g2]
          · obtain ⟨g1, g2⟩ := ih2 hn
            exact ⟨by simp [g1], by simp [hsk, g2]⟩
  obtain ⟨g1, g2⟩ := gen es.toList kv 0 hM.all
  refine ⟨fun i v hi => ?_, fun hn => ?_⟩
  · obtain ⟨_, h2, h3⟩ := g1 i v hi
    simp only [Nat.sub_zero] at h2
    refine ⟨by rw [Array.toList_modify]; exact h2, ?_, ?_, by rw [h3]; exact hM.keys⟩
    · have : (es.modify i fun e => { e with key := .string s, val := x }).toList.map (·.born) = es.toList.map (·.born) := by
        rw [Array.toList_modify]
        apply List.ext_getElem?
        intro j
        simp only [List.getElem?_map, List.getElem?_modify]
        cases es.toList[j]? with
        | none => rfl
        | some e => by_cases hij : i = j <;> simp [hij]
      rw [this]; exact hM.born
    · intro e he
      rw [Array.toList_modify] at he
      obtain ⟨j, hj⟩ := List.getElem?_of_mem he
      rw [List.getElem?_modify] at hj
      cases hej : es.toList[j]? with
      | none => rw [hej] at hj; simp at hj
      | some e0 =>
        rw [hej] at hj
        have := hM.lt e0 (List.mem_of_getElem? hej)
        by_cases hij : i = j
        · simp [hij] at hj; rw [← hj]; exact this
        · simp [hij] at hj; rw [← hj]; exact this
  · obtain ⟨h1, h2⟩ := g2 hn
    refine ⟨by rw [h1]; simp [hM.all], ?_, ?_, ?_⟩
    · simp only [Array.toList_push, List.map_append, List.map_cons, List.map_nil]
      rw [List.nodup_append]
      refine ⟨hM.born, by simp, fun b hb c hc => ?_⟩
      obtain rfl := List.mem_singleton.1 hc
      obtain ⟨e, he, rfl⟩ := List.mem_map.1 hb
      have := hM.lt e he; omega
    · intro e he
      simp only [Array.toList_push, List.mem_append, List.mem_singleton] at he
      rcases he with he | rfl
      · have := hM.lt e he; omega
      · exact Nat.lt_succ_self _
    · rw [h1]
      simp only [List.map_append, List.map_cons, List.map_nil]
      rw [List.nodup_append]
      refine ⟨hM.keys, by simp, fun b hb c hc => ?_⟩
      obtain rfl := List.mem_singleton.1 hc
      intro e; subst e; exact h2 hb
end
end Go.Fw
/- Maps with texts as keys: writing, and ranging. -/
namespace Go.Fw
open Go.RowKit
section
variable {cx : Cx} {k k' : List It} {σ σ' : Fm} {H H' : Own} {nl nl' : Nat} {X : Hp} {a : Act} {w : World} {ρ : Nat → Nat × Nat} {te : Te} {s : SV} {ops : Array Oper} {o : Oper} {rest : List Oper}
theorem W_mapset (hte : TeOk cx.P te) {T K E : TypeId} {z : Value} (hT : MapT te T K E z) {x y q : Operand} {dst : Option Tmp} {ty : TypeId} {pos : String} {after : Array Edge} {r : Nat} {kv : KV} {s : ByteArray} {u : SV} {v : Value}
    (hx : ev σ x = some (.v (.map (some r)))) (hy : ev σ y = some (.v (.string s))) (hq : ev σ q = some u) (hu : real H u = some v) (hM : MapX X r kv)
    (hk : ∀ es clock, MapAt es clock (setK s v kv) → ∃ σ', putS cx.n dst (.v undef) σ = some σ' ∧ W cx (.rg ops rest :: k) σ' H nl (X.upd r (.map es clock))) :
    W cx (.rg ops ({ dst := dst, op := .mapUpdate T x y q, type := ty, pos := pos, after := after, guard := none } :: rest) :: k) σ H nl X := by
  intro a w ρ hok
  refine run_op rfl ?_
  obtain ⟨⟨i1, ht1, hd1⟩, ⟨i2, ht2, hd2⟩, _⟩ := hT
  obtain ⟨es, clock, hX, hA⟩ := hM
  have ex := hok.eval hx trivial
  have ey := hok.eval hy trivial
  have eq : a.eval q = v := (hok.eval hq (real_cond hu)).trans (hok.v.real hu)
  simp only [SV.den] at ex ey
  have hun := run_und w (hte _ _ ht1)
  rw [hd1] at hun
  have hK := run_und w (hte _ _ ht2)
  rw [hd2] at hK
  have hw := hok.sub _ _ hX
  have hg := run_getObj (P := cx.P) hw
  have hf := run_findKey (P := cx.P) hA hK s
  have hc := run_checkKey (P := cx.P) hK false s
  obtain ⟨g1, g2⟩ := setK_at hA s v
  unfold Oper.wp
  cases hi : idxK s kv 0 with
  | none =>
    have hr : (execOp a.eval { dst := dst, op := .mapUpdate T x y q, type := ty, pos := pos, after := after, guard := none }).run cx.P w = .ok .skip (World.setBlk w r (.map (es.push { key := .string s, val := v, born := clock }) (clock + 1))) := by
      simp only [execOp, ex, ey, eq, Instr.mapUpdate, Sem.run_bind, hun, hg, hc, hf, Result.andThen_ok, hi, run_setObj hw, Sem.run_pure]
    rw [hr]
    obtain ⟨σ', hp, hW⟩ := hk _ _ (g2 hi)
    exact hW _ _ ρ ((hok.remap hX).put hp trivial)
  | some p =>
    obtain ⟨i, v0⟩ := p
    have hes : ∃ e, es[i]? = some e ∧ e.key = .string s := by
      have gen : ∀ (l : List MapEntry) (kv : KV) (j : Nat), l.map (fun e => (e.key, e.val)) = kv.map (fun p => (Value.string p.1, p.2)) → ∀ i v, idxK s kv j = some (i, v) → j ≤ i ∧ ∃ e, l[i - j]? = some e ∧ e.key = .string s := by
        intro l
        induction l with
        | nil => intro kv j h i v hi; cases kv with
          | nil => cases hi
          | cons p kv => simp at h
        | cons e l ih =>
          intro kv j h i v hi
          cases kv with
          | nil => simp at h
          | cons p kv =>
            obtain ⟨k, v1⟩ := p
            simp only [List.map_cons, List.cons.injEq, Prod.mk.injEq] at h
            obtain ⟨⟨h1, h2⟩, h3⟩ := h
            simp only [idxK] at hi
            split at hi
            · rename_i hb
              simp only [Option.some.injEq, Prod.mk.injEq] at hi
              obtain ⟨rfl, rfl⟩ := hi
              have : s = k := by simpa using hb
              exact ⟨Nat.le_refl _, e, by simp, by rw [h1, this]⟩
            · obtain ⟨g1, e', g2, g3⟩ := ih kv (j + 1) h3 i v hi
              exact ⟨by omega, e', by rw [show i - j = (i - (j + 1)) + 1 by omega]; simpa using g2, g3⟩
      obtain ⟨_, e, h1, h2⟩ := gen es.toList kv 0 hA.all i v0 hi
      exact ⟨e, by simpa using h1, h2⟩
    obtain ⟨e, he, hek⟩ := hes
    have hstay : (Instr.keyThatStays (.string s) (.string s)).run cx.P w = .ok (.string s) w := by
      simp [Instr.keyThatStays, Instr.sameBits]
    have hr : (execOp a.eval { dst := dst, op := .mapUpdate T x y q, type := ty, pos := pos, after := after, guard := none }).run cx.P w = .ok .skip (World.setBlk w r (.map (es.modify i fun e => { e with key := .string s, val := v }) clock)) := by
      simp only [execOp, ex, ey, eq, Instr.mapUpdate, Sem.run_bind, hun, hg, hc, hf, Result.andThen_ok, hi, he, Option.map_some, Option.getD_some, hek, hstay, run_setObj hw, Sem.run_pure]
    rw [hr]
    obtain ⟨σ', hp, hW⟩ := hk _ _ (g1 i v0 hi)
    exact hW _ _ ρ ((hok.remap hX).put hp trivial)
theorem delK_at {es : Array MapEntry} {clock : Nat} {kv : KV} (hM : MapAt es clock kv) (s : ByteArray) :
    (∀ i v, idxK s kv 0 = some (i, v) → MapAt (es.eraseIdxIfInBounds i) clock (delK s kv)) ∧ (idxK s kv 0 = none → delK s kv = kv) := by
  have gen : ∀ (l : List MapEntry) (kv : KV) (j : Nat), l.map (fun e => (e.key, e.val)) = kv.map (fun p => (Value.string p.1, p.2)) →
      (∀ i v, idxK s kv j = some (i, v) → j ≤ i ∧ (l.eraseIdx (i - j)).map (fun e => (e.key, e.val)) = (delK s kv).map (fun p => (Value.string p.1, p.2))) ∧
      (idxK s kv j = none → delK s kv = kv) := by
    intro l
    induction l with
    | nil =>
      intro kv j h
      cases kv with
      | nil => exact ⟨(fun i v hi => by cases hi), fun _ => rfl⟩
      | cons p kv => simp at h
    | cons e l ih =>
      intro kv j h
      cases kv with
      | nil => simp at h
      | cons p kv =>
        obtain ⟨k, v⟩ := p
        simp only [List.map_cons, List.cons.injEq, Prod.mk.injEq] at h
        obtain ⟨⟨h1, h2⟩, h3⟩ := h
        obtain ⟨ih1, ih2⟩ := ih kv (j + 1) h3
        simp only [idxK, delK]
        cases hb : s == k with
        | true =>
          refine ⟨fun i v hi => ?_, fun hn => by simp at hn⟩
          simp only [if_true, Option.some.injEq, Prod.mk.injEq] at hi
          obtain ⟨rfl, rfl⟩ := hi
          simp [h3]
        | false =>
          simp only [Bool.false_eq_true, if_false]
          refine ⟨fun i v' hi => ?_, fun hn => by simp [ih2 hn]⟩
          obtain ⟨g1, g2⟩ := ih1 i v' hi
          refine ⟨by omega, ?_⟩
          rw [show i - j = (i - (j + 1)) + 1 by omega]
          simp [h1, h2, g2]
  have sub : (delK s kv).Sublist kv := by
    clear gen hM
    induction kv with
    | nil => exact List.Sublist.refl _
    | cons p kv ih =>
      obtain ⟨k, v⟩ := p
      simp only [delK]
      split
      · exact List.sublist_cons_self _ _
      · exact ih.cons_cons _
  obtain ⟨g1, g2⟩ := gen es.toList kv 0 hM.all
  refine ⟨fun i v hi => ?_, g2⟩
  obtain ⟨_, h2⟩ := g1 i v hi
  simp only [Nat.sub_zero] at h2
  have hl : (es.eraseIdxIfInBounds i).toList = es.toList.eraseIdx i := by
    unfold Array.eraseIdxIfInBounds
    split
    · simp
    · rename_i hlt
      rw [List.eraseIdx_of_length_le (by simpa using hlt)]
  have hsub : (es.toList.eraseIdx i).Sublist es.toList := List.eraseIdx_sublist _ _
  refine ⟨by rw [hl]; exact h2, by rw [hl]; exact List.Nodup.sublist (hsub.map _) hM.born, fun e he => hM.lt e (hsub.subset (by rw [hl] at he; exact he)), List.Nodup.sublist (sub.map _) hM.keys⟩
theorem W_mapdel (hte : TeOk cx.P te) {T K E U V : TypeId} {z : Value} (hT : MapT te T K E z) {x y : Operand} {dst : Option Tmp} {ty : TypeId} {pos : String} {after : Array Edge} {r : Nat} {kv : KV} {s : ByteArray}
    (hU : U = T) (hx : ev σ x = some (.v (.map (some r)))) (hy : ev σ y = some (.v (.string s))) (hM : MapX X r kv)
    (hk : ∀ es clock, MapAt es clock (delK s kv) → ∃ σ', putS cx.n dst (.v (.tuple #[])) σ = some σ' ∧ W cx (.rg ops rest :: k) σ' H nl (X.upd r (.map es clock))) :
    W cx (.rg ops ({ dst := dst, op := .call { callee := .builtin .delete, args := #[x, y], argTypes := #[U, V] }, type := ty, pos := pos, after := after, guard := none } :: rest) :: k) σ H nl X := by
  subst hU
  intro a w ρ hok
  refine run_op rfl ?_
  obtain ⟨⟨i1, ht1, hd1⟩, ⟨i2, ht2, hd2⟩, _⟩ := hT
  obtain ⟨es, clock, hX, hA⟩ := hM
  have ex := hok.eval hx trivial
  have ey := hok.eval hy trivial
  simp only [SV.den] at ex ey
  have hun := run_und w (hte _ _ ht1)
  rw [hd1] at hun
  have hK := run_und w (hte _ _ ht2)
  rw [hd2] at hK
  have hw := hok.sub _ _ hX
  have hg := run_getObj (P := cx.P) hw
  have hf := run_findKey (P := cx.P) hA hK s
  have hc := run_checkKey (P := cx.P) hK es.isEmpty s
  obtain ⟨g1, g2⟩ := delK_at hA s
  unfold Oper.wp
  cases hi : idxK s kv 0 with
  | none =>
    have hr : (execOp a.eval { dst := dst, op := .call { callee := .builtin .delete, args := #[x, y], argTypes := #[U, V] }, type := ty, pos := pos, after := after, guard := none }).run cx.P w = .ok (.value (.tuple #[])) (World.setBlk w r (.map es clock)) := by
      simp [execOp, resolve, invoke, builtin, ex, ey, Builtin.delete_, hun, hg, hc, hf, hi, run_setObj hw]
    rw [hr]
    obtain ⟨σ', hp, hW⟩ := hk es clock (by rw [g2 hi]; exact hA)
    exact hW _ _ ρ ((hok.remap hX).put hp trivial)
  | some p =>
    obtain ⟨i, v0⟩ := p
    have hr : (execOp a.eval { dst := dst, op := .call { callee := .builtin .delete, args := #[x, y], argTypes := #[U, V] }, type := ty, pos := pos, after := after, guard := none }).run cx.P w = .ok (.value (.tuple #[])) (World.setBlk w r (.map (es.eraseIdxIfInBounds i) clock)) := by
      simp [execOp, resolve, invoke, builtin, ex, ey, Builtin.delete_, hun, hg, hc, hf, hi, run_setObj hw]
    rw [hr]
    obtain ⟨σ', hp, hW⟩ := hk _ _ (g1 i v0 hi)
    exact hW _ _ ρ ((hok.remap hX).put hp trivial)
theorem W_mapclear (hte : TeOk cx.P te) {T K E : TypeId} {z : Value} (hT : MapT te T K E z) {x : Operand} {dst : Option Tmp} {ty : TypeId} {pos : String} {after : Array Edge} {r : Nat} {kv : KV}
    (hx : ev σ x = some (.v (.map (some r)))) (hM : MapX X r kv)
    (hk : ∀ clock, ∃ σ', putS cx.n dst (.v (.tuple #[])) σ = some σ' ∧ W cx (.rg ops rest :: k) σ' H nl (X.upd r (.map #[] clock))) :
    W cx (.rg ops ({ dst := dst, op := .call { callee := .builtin .clear, args := #[x], argTypes := #[T] }, type := ty, pos := pos, after := after, guard := none } :: rest) :: k) σ H nl X := by
  intro a w ρ hok
  refine run_op rfl ?_
  obtain ⟨⟨i1, ht1, hd1⟩, _, _⟩ := hT
  obtain ⟨es, clock, hX, hA⟩ := hM
  have ex := hok.eval hx trivial
  simp only [SV.den] at ex
  have hun := run_und w (hte _ _ ht1)
  rw [hd1] at hun
  have hw := hok.sub _ _ hX
  have hg := run_getObj (P := cx.P) hw
  unfold Oper.wp
  have hr : (execOp a.eval { dst := dst, op := .call { callee := .builtin .clear, args := #[x], argTypes := #[T] }, type := ty, pos := pos, after := after, guard := none }).run cx.P w = .ok (.value (.tuple #[])) (World.setBlk w r (.map #[] clock)) := by
    simp [execOp, resolve, invoke, builtin, ex, Builtin.clear_, hun, hg, run_setObj hw]
  rw [hr]
  obtain ⟨σ', hp, hW⟩ := hk clock
  exact hW _ _ ρ ((hok.remap hX).put hp trivial)
theorem MapAt.clear (clock : Nat) : MapAt #[] clock [] := ⟨rfl, List.nodup_nil, (fun _ h => by cases h), List.nodup_nil⟩
/-- A block is laid in the partial heap. -/
theorem Ok.lay (hok : Ok cx σ H nl X a w ρ) (o : Obj) : Ok cx σ H nl (X.upd w.heap.size o) a { w with heap := w.heap.push o } ρ := by
  have keep : ∀ i p, w.heap[i]? = some p → (w.heap.push o)[i]? = some p := fun i p hi => by
    have := lt_of_heap hi
    rw [Array.getElem?_push, if_neg (by omega)]; exact hi
  refine ⟨hok.size, hok.defers, hok.val, hok.lab, ?_, hok.inj, ?_, ?_, ?_⟩
  · intro l B hl
    obtain ⟨h1, h2⟩ := hok.blk l B hl
    refine ⟨h1, ?_⟩
    have hne : B.mine = true → (ρ l).1 ≠ w.heap.size := fun hm => Nat.ne_of_lt (hok.mine_none hl hm).2
    cases B with
    | own T cs => exact ⟨h2.1, keep _ _ h2.2.1, by rw [Hp.upd_ne _ _ (hne rfl)]; exact h2.2.2.1, h2.2.2.2⟩
    | bor c T cs => exact ⟨h2.1, keep _ _ h2.2.1, by rw [Hp.upd_ne _ _ (hne rfl)]; exact h2.2.2.1, h2.2.2.2⟩
    | ext c o' T cs =>
      obtain ⟨e, full, fz, hx, hc⟩ := h2
      exact ⟨e, full, fz, by rw [Hp.upd_ne _ _ (Nat.ne_of_lt (lt_of_heap (hok.sub _ _ hx)))]; exact hx, hc⟩
  · intro i p hi
    by_cases e : i = w.heap.size
    · subst e; rw [Hp.upd_same] at hi; obtain rfl := Option.some.inj hi; simp
    · rw [Hp.upd_ne _ _ e] at hi; exact keep _ _ (hok.sub i p hi)
  · exact ⟨hok.ev.os, hok.ev.tape, hok.ev.output, hok.ev.drawn, by have := hok.ev.size; simp; omega, fun i p hi hx => keep _ _ (hok.ev.keep i p hi hx)⟩
  · intro i hi
    by_cases e : i = w.heap.size
    · subst e; exact .inr hok.ev.size
    · rw [Hp.upd_ne _ _ e] at hi; exact hok.dom i hi
theorem W_makeMap {T : TypeId} {dst : Option Tmp} {ty : TypeId} {pos : String} {after : Array Edge}
    (hk : ∀ r, X r = none → ∃ σ', putS cx.n dst (.v (.map (some r))) σ = some σ' ∧ W cx (.rg ops rest :: k) σ' H nl (X.upd r (.map #[] 0))) :
    W cx (.rg ops ({ dst := dst, op := .makeMap T none, type := ty, pos := pos, after := after, guard := none } :: rest) :: k) σ H nl X := by
  intro a w ρ hok
  refine run_op rfl ?_
  unfold Oper.wp
  have hr : (execOp a.eval { dst := dst, op := .makeMap T none, type := ty, pos := pos, after := after, guard := none }).run cx.P w = .ok (.value (.map (some w.heap.size))) { w with heap := w.heap.push (.map #[] 0) } := by
    simp [execOp, Instr.makeMap, newObj, Sem.run]
  rw [hr]
  obtain ⟨σ', hp, hW⟩ := hk _ hok.x_none
  exact hW _ _ ρ ((hok.lay _).put hp trivial)
end
end Go.Fw
/- Ranging over maps; conversions of texts; making and copying rows. -/
namespace Go.Fw
open Go.RowKit
/-- An iterator at block b over the map r: todo is left; of what it told last. -/
def IterX (X : Hp) (b r : Nat) (todo : KV) (cur : Option (ByteArray × Value)) : Prop :=
  ∃ es clock kv seen, X b = some (.mapIter (some r) clock seen clock) ∧ X r = some (.map es clock) ∧ MapAt es clock kv ∧
    (es.toList.filter (fun e => !seen.contains e.born)).map (fun e => (e.key, e.val)) = todo.map (fun p => (Value.string p.1, p.2)) ∧
    ∀ p, cur = some p → ∃ e ∈ es.toList, seen.back? = some e.born ∧ e.key = .string p.1 ∧ e.val = p.2
section
variable {cx : Cx} {k k' : List It} {σ σ' : Fm} {H H' : Own} {nl nl' : Nat} {X : Hp} {a : Act} {w : World} {ρ : Nat → Nat × Nat} {te : Te} {s : SV} {ops : Array Oper} {o : Oper} {rest : List Oper}
theorem W_range (hte : TeOk cx.P te) {T K E : TypeId} {z : Value} (hT : MapT te T K E z) {x : Operand} {dst : Option Tmp} {ty : TypeId} {pos : String} {after : Array Edge} {r : Nat} {kv : KV}
    (hx : ev σ x = some (.v (.map (some r)))) (hM : MapX X r kv)
    (hk : ∀ b o, X b = none → IterX (X.upd b o) b r kv none → ∃ σ', putS cx.n dst (.v (.pointer (some ⟨b, 0, none⟩))) σ = some σ' ∧ W cx (.rg ops rest :: k) σ' H nl (X.upd b o)) :
    W cx (.rg ops ({ dst := dst, op := .range T x, type := ty, pos := pos, after := after, guard := none } :: rest) :: k) σ H nl X := by
  intro a w ρ hok
  refine run_op rfl ?_
  obtain ⟨⟨i1, ht1, hd1⟩, _, _⟩ := hT
  obtain ⟨es, clock, hX, hA⟩ := hM
  have ex := hok.eval hx trivial
  simp only [SV.den] at ex
  have hun := run_und w (hte _ _ ht1)
  rw [hd1] at hun
  have hg := run_getObj (P := cx.P) (hok.sub _ _ hX)
  unfold Oper.wp
  have hr : (execOp a.eval { dst := dst, op := .range T x, type := ty, pos := pos, after := after, guard := none }).run cx.P w = .ok (.value (.pointer (some ⟨w.heap.size, 0, none⟩))) { w with heap := w.heap.push (.mapIter (some r) clock #[] clock) } := by
    simp [execOp, ex, Instr.range, hun, hg, newObj, Sem.run]
  rw [hr]
  have hne : r ≠ w.heap.size := Nat.ne_of_lt (lt_of_heap (hok.sub _ _ hX))
  obtain ⟨σ', hp, hW⟩ := hk _ (.mapIter (some r) clock #[] clock) hok.x_none ⟨es, clock, kv, #[], Hp.upd_same _ _ _, by rw [Hp.upd_ne _ _ hne]; exact hX, hA, by rw [List.filter_eq_self.2 (fun e _ => by simp)]; exact hA.all, fun p h => by cases h⟩
  exact hW _ _ ρ ((hok.lay _).put hp trivial)
/-- A step that changes one iterator of the partial heap. -/
theorem Ok.reiter (hok : Ok cx σ H nl X a w ρ) {r : Nat} {q o' : Obj} (hX : X r = some q) (hq : ∀ c T fz, q ≠ .cells c T fz) : Ok cx σ H nl (X.upd r o') a (World.setBlk w r o') ρ := by
  have hw := hok.sub _ _ hX
  have hsz := lt_of_heap hw
  have keep : ∀ b, b ≠ r → (World.setBlk w r o').heap[b]? = w.heap[b]? := fun b hb => by
    simp only [World.setBlk]; rw [Array.getElem?_setIfInBounds_ne (Ne.symm hb)]
  have hfree : cx.Free r := hok.dom r (by rw [hX]; simp)
  refine ⟨hok.size, hok.defers, hok.val, hok.lab, ?_, hok.inj, ?_, ?_, ?_⟩
  · intro l B hl
    obtain ⟨h1, h2⟩ := hok.blk l B hl
    refine ⟨h1, ?_⟩
    have hne : B.mine = true → (ρ l).1 ≠ r := fun hm e => by have := (hok.mine_none hl hm).1; rw [e, hX] at this; cases this
    cases B with
    | own T cs => exact ⟨h2.1, by rw [keep _ (hne rfl)]; exact h2.2.1, by rw [Hp.upd_ne _ _ (hne rfl)]; exact h2.2.2.1, h2.2.2.2⟩
    | bor c T cs => exact ⟨h2.1, by rw [keep _ (hne rfl)]; exact h2.2.1, by rw [Hp.upd_ne _ _ (hne rfl)]; exact h2.2.2.1, h2.2.2.2⟩
    | ext c o T cs =>
      obtain ⟨e, full, fz, hx, hc⟩ := h2
      exact ⟨e, full, fz, by rw [Hp.upd_ne _ _ (fun e' => by rw [e', hX] at hx; exact hq _ _ _ (Option.some.inj hx))]; exact hx, hc⟩
  · intro i p hi
    by_cases e : i = r
    · subst e; rw [Hp.upd_same] at hi; obtain rfl := Option.some.inj hi; exact setBlk_heap hsz
    · rw [Hp.upd_ne _ _ e] at hi; rw [keep i e]; exact hok.sub i p hi
  · refine ⟨hok.ev.os, hok.ev.tape, hok.ev.output, hok.ev.drawn, ?_, fun i p hi hx => ?_⟩
    · have := hok.ev.size; simpa [World.setBlk] using this
    · rw [keep i (fun e => by
        subst e
        rcases hfree with h | h
        · exact h hx
        · have := lt_of_heap hi; omega)]
      exact hok.ev.keep i p hi hx
  · intro i hi
    by_cases e : i = r
    · subst e; exact hfree
    · rw [Hp.upd_ne _ _ e] at hi; exact hok.dom i hi
theorem IterX.split {todo : KV} {l1 l2 : List MapEntry} {e : MapEntry} {L : List MapEntry} (hL : L = l1 ++ e :: l2) (h : L.map (fun e => (e.key, e.val)) = todo.map (fun p => (Value.string p.1, p.2))) :
    ∃ t1 p t2, todo = t1 ++ p :: t2 ∧ e.key = .string p.1 ∧ e.val = p.2 ∧ (l1 ++ l2).map (fun e => (e.key, e.val)) = (t1 ++ t2).map (fun p => (Value.string p.1, p.2)) := by
  subst hL
  induction l1 generalizing todo with
  | nil =>
    cases todo with
    | nil => simp at h
    | cons p t =>
      simp only [List.nil_append, List.map_cons, List.cons.injEq, Prod.mk.injEq] at h
      exact ⟨[], p, t, rfl, h.1.1, h.1.2, by simpa using h.2⟩
  | cons x l1 ih =>
    cases todo with
    | nil => simp at h
    | cons p t =>
      simp only [List.cons_append, List.map_cons, List.cons.injEq] at h
      obtain ⟨t1, q, t2, g1, g2, g3, g4⟩ := ih h.2
      exact ⟨p :: t1, q, t2, by rw [g1]; rfl, g2, g3, by simp only [List.cons_append, List.map_cons, h.1, g4]⟩
theorem run_choose {P : Program} (n : Nat) (hn : 0 < n) (w : World) : ∃ i d, w.drawn ≤ d ∧ i < n ∧ (choose (.mapNext n)).run P w = .ok i { w with drawn := d } := by
  by_cases h : n ≤ 1
  · exact ⟨0, w.drawn, Nat.le_refl _, hn, by simp [choose, Sem.run, Question.forced, h]⟩
  · exact ⟨w.tape w.drawn (.mapNext n) % n, w.drawn + 1, Nat.le_succ _, Nat.mod_lt _ hn, by simp [choose, Sem.run, Question.forced, Question.cut, h]⟩
theorem Ok.drewTo (hok : Ok cx σ H nl X a w ρ) (d : Nat) (hd : w.drawn ≤ d) : Ok cx σ H nl X a { w with drawn := d } ρ :=
  ⟨hok.size, hok.defers, hok.val, hok.lab, fun l B hl => ⟨(hok.blk l B hl).1, by
    have h2 := (hok.blk l B hl).2
    cases B <;> exact h2⟩, hok.inj, hok.sub, ⟨hok.ev.os, hok.ev.tape, hok.ev.output, Nat.le_trans hok.ev.drawn hd, hok.ev.size, hok.ev.keep⟩, hok.dom⟩
theorem W_next {x : Operand} {dst : Option Tmp} {ty : TypeId} {pos : String} {after : Array Edge} {b r : Nat} {todo : KV} {cur : Option (ByteArray × Value)}
    (hx : ev σ x = some (.v (.pointer (some ⟨b, 0, none⟩)))) (hI : IterX X b r todo cur)
    (h0 : todo = [] → ∃ σ', putS cx.n dst (.v (.tuple #[.bool false])) σ = some σ' ∧ W cx (.rg ops rest :: k) σ' H nl X)
    (h1 : ∀ t1 p t2 o, todo = t1 ++ p :: t2 → IterX (X.upd b o) b r (t1 ++ t2) (some p) → ∃ σ', putS cx.n dst (.v (.tuple #[.bool true, .string p.1, p.2])) σ = some σ' ∧ W cx (.rg ops rest :: k) σ' H nl (X.upd b o)) :
    W cx (.rg ops ({ dst := dst, op := .next x false, type := ty, pos := pos, after := after, guard := none } :: rest) :: k) σ H nl X := by
  intro a w ρ hok
  refine run_op rfl ?_
  obtain ⟨es, clock, kv, seen, hb, hr, hA, hl, _⟩ := hI
  have ex := hok.eval hx trivial
  simp only [SV.den] at ex
  have hgb : (getObj b).run cx.P w = .ok (.mapIter (some r) clock seen clock) w := by simp [getObj, Sem.run, hok.sub _ _ hb]
  have hgr := run_getObj (P := cx.P) (hok.sub _ _ hr)
  have hnall : (!seen.isEmpty && !es.isEmpty && es.all (fun e => decide (e.born ≥ clock))) = false := by
    cases hemp : es.isEmpty with
    | true => simp
    | false =>
      have hpos : 0 < es.size := by
        rcases Nat.eq_zero_or_pos es.size with h | h
        · rw [Array.isEmpty] at hemp; simp [h] at hemp
        · exact h
      have : es.all (fun e => decide (e.born ≥ clock)) = false := by
        rw [Bool.eq_false_iff]
        intro hall
        have := Array.all_eq_true_iff_forall_mem.1 hall es[0] (by simp)
        have h2 := hA.lt es[0] (by simp)
        simp at this; omega
      simp [this]
  have hold : ((es.filter fun e => !seen.contains e.born).filter fun e => decide (e.born < clock)) = es.filter fun e => !seen.contains e.born := by
    apply Array.filter_eq_self.2
    intro e he
    have := hA.lt e (by simpa using (Array.mem_filter.1 he).1)
    simpa using this
  have hnew : ((es.filter fun e => !seen.contains e.born).filter fun e => decide (e.born ≥ clock)) = #[] := by
    apply Array.filter_eq_empty_iff.2
    intro e he
    have := hA.lt e (by simpa using (Array.mem_filter.1 he).1)
    simp; omega
  unfold Oper.wp
  by_cases hemp : (es.filter fun e => !seen.contains e.born) = #[]
  · have ht : todo = [] := by
      have h2 : es.toList.filter (fun e => !seen.contains e.born) = [] := by
        have := congrArg Array.toList hemp
        simpa using this
      rw [h2] at hl
      exact (List.map_eq_nil_iff.1 hl.symm)
    obtain ⟨σ', hp, hW⟩ := h0 ht
    obtain ⟨i, d, hdd, hi, hch⟩ := run_choose (P := cx.P) 1 (by omega) w
    have hi0 : i = 0 := by omega
    subst hi0
    have hr : (execOp a.eval { dst := dst, op := .next x false, type := ty, pos := pos, after := after, guard := none }).run cx.P w = .ok (.value (.tuple #[.bool false])) { w with drawn := d } := by
      simp only [execOp, ex, Instr.next, Sem.run_bind, hgb, hgr, Result.andThen_ok, hnall, Bool.false_eq_true, if_false, hemp]
      simp [hch]
    rw [hr]
    exact hW _ _ ρ ((hok.drewTo d hdd).put hp trivial)
  · have hsz : 0 < (es.filter fun e => !seen.contains e.born).size := by
      rcases Nat.eq_zero_or_pos (es.filter fun e => !seen.contains e.born).size with h | h
      · exact absurd (Array.eq_empty_of_size_eq_zero h) hemp
      · exact h
    have hne : (es.filter fun e => !seen.contains e.born).isEmpty = false := by
      rw [Array.isEmpty]; simpa using Nat.ne_of_gt hsz
    obtain ⟨i, d, hdd, hi, hch⟩ := run_choose (P := cx.P) (es.filter fun e => !seen.contains e.born).size hsz w
    have hget : (es.filter fun e => !seen.contains e.born)[i]? = some (es.filter fun e => !seen.contains e.born)[i] := by simp
    generalize he : (es.filter fun e => !seen.contains e.born)[i] = e at hget
    have hmem : e ∈ es.filter fun e => !seen.contains e.born := Array.mem_of_getElem? hget
    have hes : e ∈ es.toList := by simpa using (Array.mem_filter.1 hmem).1
    have hns : seen.contains e.born = false := by simpa using (Array.mem_filter.1 hmem).2
    have hsplit : ∃ l1 l2, es.toList.filter (fun e => !seen.contains e.born) = l1 ++ e :: l2 := by
      have : e ∈ es.toList.filter (fun e => !seen.contains e.born) := by
        rw [List.mem_filter]; exact ⟨hes, by rw [hns]; rfl⟩
      obtain ⟨l1, l2, h⟩ := List.append_of_mem this
      exact ⟨l1, l2, h⟩
    obtain ⟨l1, l2, hL⟩ := hsplit
    obtain ⟨t1, p, t2, g1, g2, g3, g4⟩ := IterX.split hL hl
    have hleft : es.toList.filter (fun e' => !(seen.push e.born).contains e'.born) = l1 ++ l2 := by
      have hborn : ((es.toList.filter (fun e => !seen.contains e.born)).map (·.born)).Nodup := List.Nodup.sublist (List.filter_sublist.map _) hA.born
      have h3 : es.toList.filter (fun e' => !(seen.push e.born).contains e'.born) = (es.toList.filter (fun e => !seen.contains e.born)).filter (fun e' => e'.born != e.born) := by
        rw [List.filter_filter]
        apply List.filter_congr
        intro e' _
        simp only [Array.contains_push]
        cases hc : seen.contains e'.born <;> cases hb2 : (e'.born == e.born) <;> simp_all [bne]
      rw [h3, hL]
      rw [hL] at hborn
      simp only [List.map_append, List.map_cons] at hborn
      rw [List.nodup_append] at hborn
      obtain ⟨_, n2, n3⟩ := hborn
      rw [List.nodup_cons] at n2
      rw [List.filter_append, List.filter_cons]
      have f1 : l1.filter (fun e' => e'.born != e.born) = l1 := List.filter_eq_self.2 fun e' he' => by
        have := n3 e'.born (List.mem_map.2 ⟨e', he', rfl⟩) e.born (by simp)
        simpa using this
      have f2 : l2.filter (fun e' => e'.born != e.born) = l2 := List.filter_eq_self.2 fun e' he' => by
        have : e'.born ≠ e.born := fun h => n2.1 (h ▸ List.mem_map.2 ⟨e', he', rfl⟩)
        simpa using this
      rw [f1, f2]; simp
    have hrun : (execOp a.eval { dst := dst, op := .next x false, type := ty, pos := pos, after := after, guard := none }).run cx.P w = .ok (.value (.tuple #[.bool true, e.key, e.val])) (World.setBlk { w with drawn := d } b (.mapIter (some r) clock (seen.push e.born) clock)) := by
      have hset : (setObj b (.mapIter (some r) clock (seen.push e.born) clock)).run cx.P { w with drawn := d } = .ok () (World.setBlk { w with drawn := d } b (.mapIter (some r) clock (seen.push e.born) clock)) := by
        simp [setObj, Sem.run, hok.sub _ _ hb, World.setBlk]
      simp only [execOp, ex, Instr.next, Sem.run_bind, hgb, hgr, Result.andThen_ok, hnall, Bool.false_eq_true, if_false, hold, hnew, hne]
      simp only [Array.append_empty, Array.empty_append, Array.size_map, hch, Result.andThen_ok, Array.getElem?_map, hget, Option.map_some, Sem.run_bind, hset, Sem.run_pure]
    rw [hrun]
    have hbr : r ≠ b := fun e' => by subst e'; rw [hb] at hr; cases hr
    obtain ⟨σ', hp, hW⟩ := h1 t1 p t2 (.mapIter (some r) clock (seen.push e.born) clock) g1 ⟨es, clock, kv, seen.push e.born, Hp.upd_same _ _ _, by rw [Hp.upd_ne _ _ hbr]; exact hr, hA, by rw [hleft]; exact g4, fun q hq => by
      obtain rfl := Option.some.inj hq
      exact ⟨e, hes, by simp, g2, g3⟩⟩
    rw [g2, g3]
    exact hW _ _ ρ (((hok.drewTo d hdd).reiter hb (fun c T fz h => by cases h)).put hp trivial)
theorem W_entry {x : Operand} {dst : Option Tmp} {ty : TypeId} {pos : String} {after : Array Edge} {b r : Nat} {todo : KV} {p : ByteArray × Value}
    (hx : ev σ x = some (.v (.pointer (some ⟨b, 0, none⟩)))) (hI : IterX X b r todo (some p))
    (hp : putS cx.n dst (.v (.tuple #[.string p.1, p.2])) σ = some σ') (hk : W cx (.rg ops rest :: k) σ' H nl X) :
    W cx (.rg ops ({ dst := dst, op := .entry x, type := ty, pos := pos, after := after, guard := none } :: rest) :: k) σ H nl X := by
  refine W_val (s := .v (.tuple #[.string p.1, p.2])) (fun a w ρ hok => ⟨?_, trivial⟩) hp hk
  obtain ⟨es, clock, kv, seen, hb, hr, hA, hl, hc⟩ := hI
  obtain ⟨e, he, hbk, hk1, hk2⟩ := hc p rfl
  have ex := hok.eval hx trivial
  simp only [SV.den] at ex
  have hgb : (getObj b).run cx.P w = .ok (.mapIter (some r) clock seen clock) w := by simp [getObj, Sem.run, hok.sub _ _ hb]
  have hgr := run_getObj (P := cx.P) (hok.sub _ _ hr)
  have hfind : es.find? (fun x => x.born == e.born) = some e := by
    rw [← Array.find?_toList]
    have gen : ∀ l : List MapEntry, (l.map (·.born)).Nodup → e ∈ l → l.find? (fun x => x.born == e.born) = some e := by
      intro l
      induction l with
      | nil => intro _ h; cases h
      | cons y l ih =>
        intro hn hm
        simp only [List.map_cons, List.nodup_cons] at hn
        rw [List.find?_cons]
        rcases List.mem_cons.1 hm with rfl | hm
        · simp
        · have : (y.born == e.born) = false := by
            have : y.born ≠ e.born := fun h => hn.1 (h ▸ List.mem_map.2 ⟨e, hm, rfl⟩)
            simpa using this
          rw [this]; exact ih hn.2 hm
    exact gen _ hA.born he
  simp [execOp, ex, Instr.entry, hgb, hbk, hgr, hfind, hk1, hk2, SV.den]
end
end Go.Fw
/- Maps with numbers as keys. -/
namespace Go.Fw.I
open Go.RowKit
section
variable {cx : Cx} {k k' : List It} {σ σ' : Fm} {H H' : Own} {nl nl' : Nat} {X : Hp} {a : Act} {w : World} {ρ : Nat → Nat × Nat} {te : Te} {s : SV} {ops : Array Oper} {o : Oper} {rest : List Oper}

abbrev KV := List (Int × Value)
def getK (s : Int) : KV → Option Value
  | [] => none
  | (k, v) :: r => if s == k then some v else getK s r
def setK (s : Int) (x : Value) : KV → KV
  | [] => [(s, x)]
  | (k, v) :: r => if s == k then (s, x) :: r else (k, v) :: setK s x r
def delK (s : Int) : KV → KV
  | [] => []
  | (k, v) :: r => if s == k then r else (k, v) :: delK s r
/-- The entries of a map are kv, in this order. -/
structure MapAt (es : Array MapEntry) (clock : Nat) (kv : KV) : Prop where
  all : es.toList.map (fun e => (e.key, e.val)) = kv.map (fun p => (Value.int .i64 p.1, p.2))
  born : (es.toList.map (·.born)).Nodup
  lt : ∀ e ∈ es.toList, e.born < clock
  keys : (kv.map (·.1)).Nodup
def MapX (X : Hp) (r : Nat) (kv : KV) : Prop := ∃ es clock, X r = some (.map es clock) ∧ MapAt es clock kv
theorem MapAt.empty : MapAt #[] 0 [] := ⟨rfl, List.nodup_nil, (fun _ h => by cases h), List.nodup_nil⟩
/-- Where a key stands. -/
def idxK (s : Int) : KV → Nat → Option (Nat × Value)
  | [], _ => none
  | (k, v) :: r, i => if s == k then some (i, v) else idxK s r (i + 1)
theorem idxK_get (s : Int) : ∀ (kv : KV) (i : Nat), (idxK s kv i).map (·.2) = getK s kv := by
  intro kv
  induction kv with
  | nil => intro i; rfl
  | cons p kv ih => intro i; obtain ⟨k, v⟩ := p; simp only [idxK, getK]; split <;> simp [ih]
theorem findNow_idx (s : Int) : ∀ (l : List MapEntry) (kv : KV) (i : Nat), l.map (fun e => (e.key, e.val)) = kv.map (fun p => (Value.int .i64 p.1, p.2)) → Instr.findNow (.int .i64) (.int .i64 s) l i = some (idxK s kv i) := by
  intro l
  induction l with
  | nil => intro kv i h; cases kv with
    | nil => rfl
    | cons p kv => simp at h
  | cons e l ih =>
    intro kv i h
    cases kv with
    | nil => simp at h
    | cons p kv =>
      obtain ⟨k, v⟩ := p
      simp only [List.map_cons, List.cons.injEq, Prod.mk.injEq] at h
      obtain ⟨⟨h1, h2⟩, h3⟩ := h
      simp only [Instr.findNow, h1, Instr.sameNow, idxK]
      cases hb : s == k with
      | true => simp [h2]
      | false => simp [ih kv (i + 1) h3]
theorem run_findKey {P : Program} {K : TypeId} {es : Array MapEntry} {clock : Nat} {kv : KV} (hM : MapAt es clock kv) (hK : (underlying K).run P w = .ok (.int .i64) w) (s : Int) : (Instr.findKey K (.int .i64 s) es.toList).run P w = .ok (idxK s kv 0) w := by
  simp [Instr.findKey, hK, findNow_idx s es.toList kv 0 hM.all]
theorem run_checkKey {P : Program} {K : TypeId} (hK : (underlying K).run P w = .ok (.int .i64) w) (b : Bool) (s : Int) : (Instr.checkKey b 10000 K (.int .i64 s)).run P w = .ok () w := by
  have h : ∀ n, (Instr.checkKey b (n + 1) K (.int .i64 s)).run P w = .ok () w := fun n => by simp [Instr.checkKey, hK]
  exact h 9999
structure MapT (te : Te) (T K E : TypeId) (z : Value) : Prop where
  map : ∃ i, te T = some i ∧ i.desc = .map K E
  key : ∃ i, te K = some i ∧ i.desc = .int .i64
  zero : ∃ i, te E = some i ∧ i.zero = some z
theorem W_lookup1 (hte : TeOk cx.P te) {T K E : TypeId} {z : Value} (hT : MapT te T K E z) {x y : Operand} {dst : Option Tmp} {ty : TypeId} {pos : String} {after : Array Edge} {r : Nat} {kv : KV} {s : Int}
    (hx : ev σ x = some (.v (.map (some r)))) (hy : ev σ y = some (.v (.int .i64 s))) (hM : MapX X r kv)
    (hp : putS cx.n dst (.v ((getK s kv).getD z)) σ = some σ') (hk : W cx (.rg ops rest :: k) σ' H nl X) :
    W cx (.rg ops ({ dst := dst, op := .lookup T x y false, type := ty, pos := pos, after := after, guard := none } :: rest) :: k) σ H nl X := by
  refine W_val (s := .v ((getK s kv).getD z)) (fun a w ρ hok => ⟨?_, trivial⟩) hp hk
  obtain ⟨⟨i1, ht1, hd1⟩, ⟨i2, ht2, hd2⟩, ⟨i3, ht3, hz⟩⟩ := hT
  obtain ⟨es, clock, hX, hA⟩ := hM
  have ex := hok.eval hx trivial
  have ey := hok.eval hy trivial
  simp only [SV.den] at ex ey
  have hu := run_und w (hte _ _ ht1)
  rw [hd1] at hu
  have hK := run_und w (hte _ _ ht2)
  rw [hd2] at hK
  have hzr := run_zero w (hte _ _ ht3) hz
  have hg := run_getObj (P := cx.P) (hok.sub _ _ hX)
  have hf := run_findKey (P := cx.P) hA hK s
  have hc := run_checkKey (P := cx.P) hK es.isEmpty s
  have hi := idxK_get s kv 0
  simp only [execOp, ex, ey, Instr.lookup, Sem.run_bind, hu, hg, Result.andThen_ok, Sem.run_pure, hc, hf]
  cases hq : idxK s kv 0 with
  | none => rw [hq] at hi; simp at hi; simp [← hi, hzr, SV.den]
  | some p => rw [hq] at hi; simp at hi; simp [← hi, SV.den]
theorem setK_at {es : Array MapEntry} {clock : Nat} {kv : KV} (hM : MapAt es clock kv) (s : Int) (x : Value) :
    (∀ i v, idxK s kv 0 = some (i, v) → MapAt (es.modify i fun e => { e with key := .int .i64 s, val := x }) clock (setK s x kv)) ∧
    (idxK s kv 0 = none → MapAt (es.push { key := .int .i64 s, val := x, born := clock }) (clock + 1) (setK s x kv)) := by
  have gen : ∀ (l : List MapEntry) (kv : KV) (j : Nat), l.map (fun e => (e.key, e.val)) = kv.map (fun p => (Value.int .i64 p.1, p.2)) →
      (∀ i v, idxK s kv j = some (i, v) → j ≤ i ∧ (l.modify (i - j) fun e => { e with key := .int .i64 s, val := x }).map (fun e => (e.key, e.val)) = (setK s x kv).map (fun p => (Value.int .i64 p.1, p.2)) ∧ (setK s x kv).map (·.1) = kv.map (·.1)) ∧
      (idxK s kv j = none → setK s x kv = kv ++ [(s, x)] ∧ s ∉ kv.map (·.1)) := by
    intro l
    induction l with
    | nil =>
      intro kv j h
      cases kv with
      | nil => exact ⟨(fun i v hi => by cases hi), fun _ => ⟨rfl, by simp⟩⟩
      | cons p kv => simp at h
    | cons e l ih =>
      intro kv j h
      cases kv with
      | nil => simp at h
      | cons p kv =>
        obtain ⟨k, v⟩ := p
        simp only [List.map_cons, List.cons.injEq, Prod.mk.injEq] at h
        obtain ⟨⟨h1, h2⟩, h3⟩ := h
        obtain ⟨ih1, ih2⟩ := ih kv (j + 1) h3
        simp only [idxK, setK]
        cases hb : s == k with
        | true =>
          have hsk : s = k := by simpa using hb
          refine ⟨fun i v hi => ?_, fun hn => by simp at hn⟩
          simp only [if_true, Option.some.injEq, Prod.mk.injEq] at hi
          obtain ⟨rfl, rfl⟩ := hi
          simp [h3, hsk]
        | false =>
          have hsk : ¬ s = k := by simpa using hb
          simp only [Bool.false_eq_true, if_false]
          refine ⟨fun i v' hi => ?_, fun hn => ?_⟩
          · obtain ⟨g1, g2, g3⟩ := ih1 i v' hi
            refine ⟨by omega, ?_, by simp [g3]⟩
            rw [show i - j = (i - (j + 1)) + 1 by omega]
            simp [h1, h2, g2]
          · obtain ⟨g1, g2⟩ := ih2 hn
            exact ⟨by simp [g1], by simp [hsk, g2]⟩
  obtain ⟨g1, g2⟩ := gen es.toList kv 0 hM.all
  refine ⟨fun i v hi => ?_, fun hn => ?_⟩
  · obtain ⟨_, h2, h3⟩ := g1 i v hi
    simp only [Nat.sub_zero] at h2
    refine ⟨by rw [Array.toList_modify]; exact h2, ?_, ?_, by rw [h3]; exact hM.keys⟩
    · have : (es.modify i fun e => { e with key := .int .i64 s, val := x }).toList.map (·.born) = es.toList.map (·.born) := by
        rw [Array.toList_modify]
        apply List.ext_getElem?
        intro j
        simp only [List.getElem?_map, List.getElem?_modify]
        cases es.toList[j]? with
        | none => rfl
        | some e => by_cases hij : i = j <;> simp [hij]
      rw [this]; exact hM.born
    · intro e he
      rw [Array.toList_modify] at he
      obtain ⟨j, hj⟩ := List.getElem?_of_mem he
      rw [List.getElem?_modify] at hj
      cases hej : es.toList[j]? with
      | none => rw [hej] at hj; simp at hj
      | some e0 =>
        rw [hej] at hj
        have := hM.lt e0 (List.mem_of_getElem? hej)
        by_cases hij : i = j
        · simp [hij] at hj; rw [← hj]; exact this
        · simp [hij] at hj; rw [← hj]; exact this
  · obtain ⟨h1, h2⟩ := g2 hn
    refine ⟨by rw [h1]; simp [hM.all], ?_, ?_, ?_⟩
    · simp only [Array.toList_push, List.map_append, List.map_cons, List.map_nil]
      rw [List.nodup_append]
      refine ⟨hM.born, by simp, fun b hb c hc => ?_⟩
      obtain rfl := List.mem_singleton.1 hc
      obtain ⟨e, he, rfl⟩ := List.mem_map.1 hb
      have := hM.lt e he; omega
    · intro e he
      simp only [Array.toList_push, List.mem_append, List.mem_singleton] at he
      rcases he with he | rfl
      · have := hM.lt e he; omega
      · exact Nat.lt_succ_self _
    · rw [h1]
      simp only [List.map_append, List.map_cons, List.map_nil]
      rw [List.nodup_append]
      refine ⟨hM.keys, by simp, fun b hb c hc => ?_⟩
      obtain rfl := List.mem_singleton.1 hc
      intro e; subst e; exact h2 hb
theorem W_mapset (hte : TeOk cx.P te) {T K E : TypeId} {z : Value} (hT : MapT te T K E z) {x y q : Operand} {dst : Option Tmp} {ty : TypeId} {pos : String} {after : Array Edge} {r : Nat} {kv : KV} {s : Int} {u : SV} {v : Value}
    (hx : ev σ x = some (.v (.map (some r)))) (hy : ev σ y = some (.v (.int .i64 s))) (hq : ev σ q = some u) (hu : real H u = some v) (hM : MapX X r kv)
    (hk : ∀ es clock, MapAt es clock (setK s v kv) → ∃ σ', putS cx.n dst (.v undef) σ = some σ' ∧ W cx (.rg ops rest :: k) σ' H nl (X.upd r (.map es clock))) :
    W cx (.rg ops ({ dst := dst, op := .mapUpdate T x y q, type := ty, pos := pos, after := after, guard := none } :: rest) :: k) σ H nl X := by
  intro a w ρ hok
  refine run_op rfl ?_
  obtain ⟨⟨i1, ht1, hd1⟩, ⟨i2, ht2, hd2⟩, _⟩ := hT
  obtain ⟨es, clock, hX, hA⟩ := hM
  have ex := hok.eval hx trivial
  have ey := hok.eval hy trivial
  have eq : a.eval q = v := (hok.eval hq (real_cond hu)).trans (hok.v.real hu)
  simp only [SV.den] at ex ey
  have hun := run_und w (hte _ _ ht1)
  rw [hd1] at hun
  have hK := run_und w (hte _ _ ht2)
  rw [hd2] at hK
  have hw := hok.sub _ _ hX
  have hg := run_getObj (P := cx.P) hw
  have hf := run_findKey (P := cx.P) hA hK s
  have hc := run_checkKey (P := cx.P) hK false s
  obtain ⟨g1, g2⟩ := setK_at hA s v
  unfold Oper.wp
  cases hi : idxK s kv 0 with
  | none =>
    have hr : (execOp a.eval { dst := dst, op := .mapUpdate T x y q, type := ty, pos := pos, after := after, guard := none }).run cx.P w = .ok .skip (World.setBlk w r (.map (es.push { key := .int .i64 s, val := v, born := clock }) (clock + 1))) := by
      simp only [execOp, ex, ey, eq, Instr.mapUpdate, Sem.run_bind, hun, hg, hc, hf, Result.andThen_ok, hi, run_setObj hw, Sem.run_pure]
    rw [hr]
    obtain ⟨σ', hp, hW⟩ := hk _ _ (g2 hi)
    exact hW _ _ ρ ((hok.remap hX).put hp trivial)
  | some p =>
    obtain ⟨i, v0⟩ := p
    have hes : ∃ e, es[i]? = some e ∧ e.key = .int .i64 s := by
      have gen : ∀ (l : List MapEntry) (kv : KV) (j : Nat), l.map (fun e => (e.key, e.val)) = kv.map (fun p => (Value.int .i64 p.1, p.2)) → ∀ i v, idxK s kv j = some (i, v) → j ≤ i ∧ ∃ e, l[i - j]? = some e ∧ e.key = .int .i64 s := by
        intro l
        induction l with
        | nil => intro kv j h i v hi; cases kv with
          | nil => cases hi
          | cons p kv => simp at h
        | cons e l ih =>
          intro kv j h i v hi
          cases kv with
          | nil => simp at h
          | cons p kv =>
            obtain ⟨k, v1⟩ := p
            simp only [List.map_cons, List.cons.injEq, Prod.mk.injEq] at h
            obtain ⟨⟨h1, h2⟩, h3⟩ := h
            simp only [idxK] at hi
            split at hi
            · rename_i hb
              simp only [Option.some.injEq, Prod.mk.injEq] at hi
              obtain ⟨rfl, rfl⟩ := hi
              have : s = k := by simpa using hb
              exact ⟨Nat.le_refl _, e, by simp, by rw [h1, this]⟩
            · obtain ⟨g1, e', g2, g3⟩ := ih kv (j + 1) h3 i v hi
              exact ⟨by omega, e', by rw [show i - j = (i - (j + 1)) + 1 by omega]; simpa using g2, g3⟩
      obtain ⟨_, e, h1, h2⟩ := gen es.toList kv 0 hA.all i v0 hi
      exact ⟨e, by simpa using h1, h2⟩
    obtain ⟨e, he, hek⟩ := hes
    have hstay : (Instr.keyThatStays (.int .i64 s) (.int .i64 s)).run cx.P w = .ok (.int .i64 s) w := by
      simp [Instr.keyThatStays, Instr.sameBits]
    have hr : (execOp a.eval { dst := dst, op := .mapUpdate T x y q, type := ty, pos := pos, after := after, guard := none }).run cx.P w = .ok .skip (World.setBlk w r (.map (es.modify i fun e => { e with key := .int .i64 s, val := v }) clock)) := by
      simp only [execOp, ex, ey, eq, Instr.mapUpdate, Sem.run_bind, hun, hg, hc, hf, Result.andThen_ok, hi, he, Option.map_some, Option.getD_some, hek, hstay, run_setObj hw, Sem.run_pure]
    rw [hr]
    obtain ⟨σ', hp, hW⟩ := hk _ _ (g1 i v0 hi)
    exact hW _ _ ρ ((hok.remap hX).put hp trivial)
/-- An iterator at block b over the map r: todo is left; of what it told last. -/
def IterX (X : Hp) (b r : Nat) (todo : KV) (cur : Option (Int × Value)) : Prop :=
  ∃ es clock kv seen, X b = some (.mapIter (some r) clock seen clock) ∧ X r = some (.map es clock) ∧ MapAt es clock kv ∧
    (es.toList.filter (fun e => !seen.contains e.born)).map (fun e => (e.key, e.val)) = todo.map (fun p => (Value.int .i64 p.1, p.2)) ∧
    ∀ p, cur = some p → ∃ e ∈ es.toList, seen.back? = some e.born ∧ e.key = .int .i64 p.1 ∧ e.val = p.2
theorem W_range (hte : TeOk cx.P te) {T K E : TypeId} {z : Value} (hT : MapT te T K E z) {x : Operand} {dst : Option Tmp} {ty : TypeId} {pos : String} {after : Array Edge} {r : Nat} {kv : KV}
    (hx : ev σ x = some (.v (.map (some r)))) (hM : MapX X r kv)
    (hk : ∀ b o, X b = none → IterX (X.upd b o) b r kv none → ∃ σ', putS cx.n dst (.v (.pointer (some ⟨b, 0, none⟩))) σ = some σ' ∧ W cx (.rg ops rest :: k) σ' H nl (X.upd b o)) :
    W cx (.rg ops ({ dst := dst, op := .range T x, type := ty, pos := pos, after := after, guard := none } :: rest) :: k) σ H nl X := by
  intro a w ρ hok
  refine run_op rfl ?_
  obtain ⟨⟨i1, ht1, hd1⟩, _, _⟩ := hT
  obtain ⟨es, clock, hX, hA⟩ := hM
  have ex := hok.eval hx trivial
  simp only [SV.den] at ex
  have hun := run_und w (hte _ _ ht1)
  rw [hd1] at hun
  have hg := run_getObj (P := cx.P) (hok.sub _ _ hX)
  unfold Oper.wp
  have hr : (execOp a.eval { dst := dst, op := .range T x, type := ty, pos := pos, after := after, guard := none }).run cx.P w = .ok (.value (.pointer (some ⟨w.heap.size, 0, none⟩))) { w with heap := w.heap.push (.mapIter (some r) clock #[] clock) } := by
    simp [execOp, ex, Instr.range, hun, hg, newObj, Sem.run]
  rw [hr]
  have hne : r ≠ w.heap.size := Nat.ne_of_lt (lt_of_heap (hok.sub _ _ hX))
  obtain ⟨σ', hp, hW⟩ := hk _ (.mapIter (some r) clock #[] clock) hok.x_none ⟨es, clock, kv, #[], Hp.upd_same _ _ _, by rw [Hp.upd_ne _ _ hne]; exact hX, hA, by rw [List.filter_eq_self.2 (fun e _ => by simp)]; exact hA.all, fun p h => by cases h⟩
  exact hW _ _ ρ ((hok.lay _).put hp trivial)
theorem IterX.split {todo : KV} {l1 l2 : List MapEntry} {e : MapEntry} {L : List MapEntry} (hL : L = l1 ++ e :: l2) (h : L.map (fun e => (e.key, e.val)) = todo.map (fun p => (Value.int .i64 p.1, p.2))) :
    ∃ t1 p t2, todo = t1 ++ p :: t2 ∧ e.key = .int .i64 p.1 ∧ e.val = p.2 ∧ (l1 ++ l2).map (fun e => (e.key, e.val)) = (t1 ++ t2).map (fun p => (Value.int .i64 p.1, p.2)) := by
  subst hL
  induction l1 generalizing todo with
  | nil =>
    cases todo with
    | nil => simp at h
    | cons p t =>
      simp only [List.nil_append, List.map_cons, List.cons.injEq, Prod.mk.injEq] at h
      exact ⟨[], p, t, rfl, h.1.1, h.1.2, by simpa using h.2⟩
  | cons x l1 ih =>
    cases todo with
    | nil => simp at h
    | cons p t =>
      simp only [List.cons_append, List.map_cons, List.cons.injEq] at h
      obtain ⟨t1, q, t2, g1, g2, g3, g4⟩ := ih h.2
      exact ⟨p :: t1, q, t2, by rw [g1]; rfl, g2, g3, by simp only [List.cons_append, List.map_cons, h.1, g4]⟩
theorem W_next {x : Operand} {dst : Option Tmp} {ty : TypeId} {pos : String} {after : Array Edge} {b r : Nat} {todo : KV} {cur : Option (Int × Value)}
    (hx : ev σ x = some (.v (.pointer (some ⟨b, 0, none⟩)))) (hI : IterX X b r todo cur)
    (h0 : todo = [] → ∃ σ', putS cx.n dst (.v (.tuple #[.bool false])) σ = some σ' ∧ W cx (.rg ops rest :: k) σ' H nl X)
    (h1 : ∀ t1 p t2 o, todo = t1 ++ p :: t2 → IterX (X.upd b o) b r (t1 ++ t2) (some p) → ∃ σ', putS cx.n dst (.v (.tuple #[.bool true, .int .i64 p.1, p.2])) σ = some σ' ∧ W cx (.rg ops rest :: k) σ' H nl (X.upd b o)) :
    W cx (.rg ops ({ dst := dst, op := .next x false, type := ty, pos := pos, after := after, guard := none } :: rest) :: k) σ H nl X := by
  intro a w ρ hok
  refine run_op rfl ?_
  obtain ⟨es, clock, kv, seen, hb, hr, hA, hl, _⟩ := hI
  have ex := hok.eval hx trivial
  simp only [SV.den] at ex
  have hgb : (getObj b).run cx.P w = .ok (.mapIter (some r) clock seen clock) w := by simp [getObj, Sem.run, hok.sub _ _ hb]
  have hgr := run_getObj (P := cx.P) (hok.sub _ _ hr)
  have hnall : (!seen.isEmpty && !es.isEmpty && es.all (fun e => decide (e.born ≥ clock))) = false := by
    cases hemp : es.isEmpty with
    | true => simp
    | false =>
      have hpos : 0 < es.size := by
        rcases Nat.eq_zero_or_pos es.size with h | h
        · rw [Array.isEmpty] at hemp; simp [h] at hemp
        · exact h
      have : es.all (fun e => decide (e.born ≥ clock)) = false := by
        rw [Bool.eq_false_iff]
        intro hall
        have := Array.all_eq_true_iff_forall_mem.1 hall es[0] (by simp)
        have h2 := hA.lt es[0] (by simp)
        simp at this; omega
      simp [this]
  have hold : ((es.filter fun e => !seen.contains e.born).filter fun e => decide (e.born < clock)) = es.filter fun e => !seen.contains e.born := by
    apply Array.filter_eq_self.2
    intro e he
    have := hA.lt e (by simpa using (Array.mem_filter.1 he).1)
    simpa using this
  have hnew : ((es.filter fun e => !seen.contains e.born).filter fun e => decide (e.born ≥ clock)) = #[] := by
    apply Array.filter_eq_empty_iff.2
    intro e he
    have := hA.lt e (by simpa using (Array.mem_filter.1 he).1)
    simp; omega
  unfold Oper.wp
  by_cases hemp : (es.filter fun e => !seen.contains e.born) = #[]
  · have ht : todo = [] := by
      have h2 : es.toList.filter (fun e => !seen.contains e.born) = [] := by
        have := congrArg Array.toList hemp
        simpa using this
      rw [h2] at hl
      exact (List.map_eq_nil_iff.1 hl.symm)
    obtain ⟨σ', hp, hW⟩ := h0 ht
    obtain ⟨i, d, hdd, hi, hch⟩ := run_choose (P := cx.P) 1 (by omega) w
    have hi0 : i = 0 := by omega
    subst hi0
    have hr : (execOp a.eval { dst := dst, op := .next x false, type := ty, pos := pos, after := after, guard := none }).run cx.P w = .ok (.value (.tuple #[.bool false])) { w with drawn := d } := by
      simp only [execOp, ex, Instr.next, Sem.run_bind, hgb, hgr, Result.andThen_ok, hnall, Bool.false_eq_true, if_false, hemp]
      simp [hch]
    rw [hr]
    exact hW _ _ ρ ((hok.drewTo d hdd).put hp trivial)
  · have hsz : 0 < (es.filter fun e => !seen.contains e.born).size := by
      rcases Nat.eq_zero_or_pos (es.filter fun e => !seen.contains e.born).size with h | h
      · exact absurd (Array.eq_empty_of_size_eq_zero h) hemp
      · exact h
    have hne : (es.filter fun e => !seen.contains e.born).isEmpty = false := by
      rw [Array.isEmpty]; simpa using Nat.ne_of_gt hsz
    obtain ⟨i, d, hdd, hi, hch⟩ := run_choose (P := cx.P) (es.filter fun e => !seen.contains e.born).size hsz w
    have hget : (es.filter fun e => !seen.contains e.born)[i]? = some (es.filter fun e => !seen.contains e.born)[i] := by simp
    generalize he : (es.filter fun e => !seen.contains e.born)[i] = e at hget
    have hmem : e ∈ es.filter fun e => !seen.contains e.born := Array.mem_of_getElem? hget
    have hes : e ∈ es.toList := by simpa using (Array.mem_filter.1 hmem).1
    have hns : seen.contains e.born = false := by simpa using (Array.mem_filter.1 hmem).2
    have hsplit : ∃ l1 l2, es.toList.filter (fun e => !seen.contains e.born) = l1 ++ e :: l2 := by
      have : e ∈ es.toList.filter (fun e => !seen.contains e.born) := by
        rw [List.mem_filter]; exact ⟨hes, by rw [hns]; rfl⟩
      obtain ⟨l1, l2, h⟩ := List.append_of_mem this
      exact ⟨l1, l2, h⟩
    obtain ⟨l1, l2, hL⟩ := hsplit
    obtain ⟨t1, p, t2, g1, g2, g3, g4⟩ := IterX.split hL hl
    have hleft : es.toList.filter (fun e' => !(seen.push e.born).contains e'.born) = l1 ++ l2 := by
      have hborn : ((es.toList.filter (fun e => !seen.contains e.born)).map (·.born)).Nodup := List.Nodup.sublist (List.filter_sublist.map _) hA.born
      have h3 : es.toList.filter (fun e' => !(seen.push e.born).contains e'.born) = (es.toList.filter (fun e => !seen.contains e.born)).filter (fun e' => e'.born != e.born) := by
        rw [List.filter_filter]
        apply List.filter_congr
        intro e' _
        simp only [Array.contains_push]
        cases hc : seen.contains e'.born <;> cases hb2 : (e'.born == e.born) <;> simp_all [bne]
      rw [h3, hL]
      rw [hL] at hborn
      simp only [List.map_append, List.map_cons] at hborn
      rw [List.nodup_append] at hborn
      obtain ⟨_, n2, n3⟩ := hborn
      rw [List.nodup_cons] at n2
      rw [List.filter_append, List.filter_cons]
      have f1 : l1.filter (fun e' => e'.born != e.born) = l1 := List.filter_eq_self.2 fun e' he' => by
        have := n3 e'.born (List.mem_map.2 ⟨e', he', rfl⟩) e.born (by simp)
        simpa using this
      have f2 : l2.filter (fun e' => e'.born != e.born) = l2 := List.filter_eq_self.2 fun e' he' => by
        have : e'.born ≠ e.born := fun h => n2.1 (h ▸ List.mem_map.2 ⟨e', he', rfl⟩)
        simpa using this
      rw [f1, f2]; simp
    have hrun : (execOp a.eval { dst := dst, op := .next x false, type := ty, pos := pos, after := after, guard := none }).run cx.P w = .ok (.value (.tuple #[.bool true, e.key, e.val])) (World.setBlk { w with drawn := d } b (.mapIter (some r) clock (seen.push e.born) clock)) := by
      have hset : (setObj b (.mapIter (some r) clock (seen.push e.born) clock)).run cx.P { w with drawn := d } = .ok () (World.setBlk { w with drawn := d } b (.mapIter (some r) clock (seen.push e.born) clock)) := by
        simp [setObj, Sem.run, hok.sub _ _ hb, World.setBlk]
      simp only [execOp, ex, Instr.next, Sem.run_bind, hgb, hgr, Result.andThen_ok, hnall, Bool.false_eq_true, if_false, hold, hnew, hne]
      simp only [Array.append_empty, Array.empty_append, Array.size_map, hch, Result.andThen_ok, Array.getElem?_map, hget, Option.map_some, Sem.run_bind, hset, Sem.run_pure]
    rw [hrun]
    have hbr : r ≠ b := fun e' => by subst e'; rw [hb] at hr; cases hr
    obtain ⟨σ', hp, hW⟩ := h1 t1 p t2 (.mapIter (some r) clock (seen.push e.born) clock) g1 ⟨es, clock, kv, seen.push e.born, Hp.upd_same _ _ _, by rw [Hp.upd_ne _ _ hbr]; exact hr, hA, by rw [hleft]; exact g4, fun q hq => by
      obtain rfl := Option.some.inj hq
      exact ⟨e, hes, by simp, g2, g3⟩⟩
    rw [g2, g3]
    exact hW _ _ ρ (((hok.drewTo d hdd).reiter hb (fun c T fz h => by cases h)).put hp trivial)
theorem W_entry {x : Operand} {dst : Option Tmp} {ty : TypeId} {pos : String} {after : Array Edge} {b r : Nat} {todo : KV} {p : Int × Value}
    (hx : ev σ x = some (.v (.pointer (some ⟨b, 0, none⟩)))) (hI : IterX X b r todo (some p))
    (hp : putS cx.n dst (.v (.tuple #[.int .i64 p.1, p.2])) σ = some σ') (hk : W cx (.rg ops rest :: k) σ' H nl X) :
    W cx (.rg ops ({ dst := dst, op := .entry x, type := ty, pos := pos, after := after, guard := none } :: rest) :: k) σ H nl X := by
  refine W_val (s := .v (.tuple #[.int .i64 p.1, p.2])) (fun a w ρ hok => ⟨?_, trivial⟩) hp hk
  obtain ⟨es, clock, kv, seen, hb, hr, hA, hl, hc⟩ := hI
  obtain ⟨e, he, hbk, hk1, hk2⟩ := hc p rfl
  have ex := hok.eval hx trivial
  simp only [SV.den] at ex
  have hgb : (getObj b).run cx.P w = .ok (.mapIter (some r) clock seen clock) w := by simp [getObj, Sem.run, hok.sub _ _ hb]
  have hgr := run_getObj (P := cx.P) (hok.sub _ _ hr)
  have hfind : es.find? (fun x => x.born == e.born) = some e := by
    rw [← Array.find?_toList]
    have gen : ∀ l : List MapEntry, (l.map (·.born)).Nodup → e ∈ l → l.find? (fun x => x.born == e.born) = some e := by
      intro l
      induction l with
      | nil => intro _ h; cases h
      | cons y l ih =>
        intro hn hm
        simp only [List.map_cons, List.nodup_cons] at hn
        rw [List.find?_cons]
        rcases List.mem_cons.1 hm with rfl | hm
        · simp
        · have : (y.born == e.born) = false := by
            have : y.born ≠ e.born := fun h => hn.1 (h ▸ List.mem_map.2 ⟨e, hm, rfl⟩)
            simpa using this
          rw [this]; exact ih hn.2 hm
    exact gen _ hA.born he
  simp [execOp, ex, Instr.entry, hgb, hbk, hgr, hfind, hk1, hk2, SV.den]
end
end Go.Fw.I
