import Derived.Test.YtdpfakplphlbgaaGreatDoorMe
import Derived.Test.YtdpfakplphlbgaaGreatDoorMb
import Derived.Test.YtdpfakplphlbgaaGreatDoorMc
import Derived.Test.YtdpfakplphlbgaaGreatDoorMh
/- The walk of slices.Concat at lines. -/
namespace Go.Fw
open Go.Proofs
/-- A value that is a slice of these lines. -/
def LnV (X : Hp) (v : Value) (l : List Line) : Prop := ∃ p c, v = .slice p l.length c ∧ Arr X 45 4 p (lcells l) ∧ l.length ≤ c
def LnsV (X : Hp) : List Value → List (List Line) → Prop
  | [], [] => True
  | v :: vs, l :: ls => LnV X v l ∧ LnsV X vs ls
  | _, _ => False
theorem LnsV.length {X : Hp} : ∀ {vs : List Value} {ls : List (List Line)}, LnsV X vs ls → vs.length = ls.length := by
  intro vs
  induction vs with
  | nil => intro ls h; cases ls with
    | nil => rfl
    | cons l ls => exact h.elim
  | cons v vs ih => intro ls h; cases ls with
    | nil => exact h.elim
    | cons l ls => simp [ih h.2]
theorem LnsV.at {X : Hp} : ∀ {vs : List Value} {ls : List (List Line)} {k : Nat} {l : List Line}, LnsV X vs ls → ls[k]? = some l → ∃ v, vs[k]? = some v ∧ LnV X v l := by
  intro vs
  induction vs with
  | nil => intro ls k l h hk; cases ls with
    | nil => cases hk
    | cons l ls => exact h.elim
  | cons v vs ih => intro ls k l h hk; cases ls with
    | nil => exact h.elim
    | cons l' ls =>
      cases k with
      | zero => obtain rfl := Option.some.inj hk; exact ⟨v, rfl, h.1⟩
      | succ k => exact ih h.2 hk
theorem take_sum_le (ls : List (List Line)) (k : Nat) : ((ls.take k).map List.length).sum ≤ (ls.map List.length).sum := by
  have := List.take_append_drop k ls
  conv => rhs; rw [← this, List.map_append, List.sum_append]
  omega
theorem concat_Line (X : Hp) (a : Option Addr) (vs : List Value) (ls : List (List Line)) (c : Nat) (hA : Arr X 33 1 a (vs.map fun v => [v])) (hR : LnsV X vs ls) (hn : ls.length ≤ 1000) (hs : (ls.map List.length).sum ≤ 1000000) :
    Trip Tryz.prog 184 #[.slice a ls.length c] X (Rt fun r X' => ∃ p c, r = .slice p ls.flatten.length c ∧ Nw X X' 45 4 p c (lcells ls.flatten)) := by
  have hvl := hR.length
  refine enter (args := [.slice a ls.length c]) Tryz.func184 rfl (by decide) rfl fun w0 => ?_
  refine sx hte rfl ?_
  refine W_for (ι := AI) (fun i => i.k ≤ ls.length) (fun i => ls.length - i.k) [3, 5, 11]
    (fun i => [(3, .v (.int .i64 (((ls.take i.k).map List.length).sum : Nat))), (11, .v (.int .i64 i.k))]) [] (fun _ => []) (fun _ => X) ⟨0⟩ (Nat.zero_le _)
    ⟨rfl, rfl, trivial⟩ trivial rfl rfl rfl fun i hi => ?_
  obtain ⟨k⟩ := i
  simp only at hi ⊢
  refine sx hte rfl ?_
  refine W_if rfl (fun hq => sx hte rfl ?_) (fun hq => sx hte rfl ?_)
  · simp only [decide_eq_true_eq] at hq
    have hk' : k < ls.length := by omega
    obtain ⟨v, hv, p, pc, rfl, hpA, hpc⟩ := hR.at (List.getElem?_eq_getElem hk')
    have hrow : (vs.map fun v => [v])[k]? = some [.slice p ls[k].length pc] := by simp [hv]
    refine W_idx (m := k) hte rfl rfl rfl rfl rfl hA rfl (by omega) hrow rfl fun bb o => ?_
    refine sx hte rfl ?_
    have hsum : ((ls.take (k + 1)).map List.length).sum = ((ls.take k).map List.length).sum + ls[k].length := by
      rw [List.take_succ_eq_append_getElem hk', List.map_append, List.sum_append]; simp
    have hle := take_sum_le ls (k + 1)
    generalize ((ls.take k).map List.length).sum = m at hsum ⊢
    generalize ls[k] = l at hsum hle ⊢
    have e : IntKind.i64.wrap ((m : Int) + (l.length : Int)) = ((m + l.length : Nat) : Int) := by rw [i64_wrap (by omega) (by omega)]; simp
    rw [e]
    refine W_if rfl (fun h2 => ?_) (fun h2 => sx hte rfl ?_)
    · simp at h2; omega
    refine W_again ⟨k + 1⟩ (by dsimp only; omega) (by dsimp only; omega) ⟨?_, ?_, trivial⟩ (by repeat first | exact trivial | refine ⟨rfl, ?_⟩) trivial (by repeat first | exact trivial | refine ⟨rfl, ?_⟩) rfl rfl rfl
    · show some (SV.v (.int .i64 _)) = _
      rw [hsum]
    · show some (SV.v (.int .i64 _)) = _
      rw [i64_wrap (by omega) (by omega)]; simp
  · simp only [decide_eq_false_iff_not] at hq
    have hk' : k = ls.length := by omega
    subst hk'
    rw [List.take_length]
    refine W_call rfl rfl (grow_Line X _ hs) ?_
    rintro r X1 ⟨p1, c1, rfl, hN1⟩
    refine ⟨hN1.le.ck.kx, _, rfl, sx hte rfl ?_⟩
    refine W_for (ι := LI) (fun i => i.k ≤ ls.length ∧ i.done = (ls.take i.k).flatten ∧ New X i.X 45 4 i.p i.c (lcells i.done)) (fun i => ls.length - i.k) [6, 8, 27]
      (fun i => [(6, .v (.slice i.p i.done.length i.c)), (27, .v (.int .i64 i.k))]) [] (fun _ => []) LI.X ⟨0, [], p1, c1, X1⟩ ⟨Nat.zero_le _, rfl, hN1⟩
      ⟨rfl, rfl, trivial⟩ trivial rfl rfl rfl fun i hi => ?_
    obtain ⟨k, done, q, c2, Xi⟩ := i
    obtain ⟨hk, hd, hN⟩ := hi
    simp only at hk hd hN ⊢
    refine sx hte rfl ?_
    refine W_if rfl (fun hq => sx hte rfl ?_) (fun hq => sx hte rfl ?_)
    · simp only [decide_eq_true_eq] at hq
      have hk' : k < ls.length := by omega
      obtain ⟨v, hv, p, pc, rfl, hpA, hpc⟩ := hR.at (List.getElem?_eq_getElem hk')
      have hrow : (vs.map fun v => [v])[k]? = some [.slice p ls[k].length pc] := by simp [hv]
      refine W_idx (m := k) hte rfl rfl rfl rfl rfl (hA.ck hN.le.ck) rfl (by omega) hrow rfl fun bb o => ?_
      refine sx hte rfl ?_
      have hd2 : (ls.take (k + 1)).flatten = done ++ ls[k] := by
        rw [hd, List.take_succ_eq_append_getElem hk', List.flatten_append]; simp
      have hle := take_sum_le ls (k + 1)
      rw [← List.length_flatten, hd2, List.length_append] at hle
      generalize ls[k] = l at hd2 hle hpA ⊢
      refine W_app (us := lcells l) hte rfl rfl rfl rfl rfl rfl rfl (by decide) hN (lcells_length _).symm (by simp [lcells, Line.cells]; intros; rfl) (lcells_length _).symm (Src.row rfl (hpA.ck hN.le.ck) (lcells_length _).symm) (fun v hv => by
        simp only [lcells, List.mem_flatten, List.mem_map] at hv
        obtain ⟨_, ⟨z, _, rfl⟩, hv⟩ := hv
        simp only [Line.cells, List.mem_cons, List.not_mem_nil, or_false] at hv
        rcases hv with rfl | rfl | rfl | rfl <;> rfl) (by omega) fun p' c' X' (hN' : New _ _ _ 4 _ _ _) => ⟨_, rfl, ?_⟩
      refine sx hte rfl ?_
      rw [lcells_append] at hN'
      refine W_again ⟨k + 1, done ++ l, p', c', X'⟩ ⟨by dsimp only; omega, hd2.symm, hN'⟩ (by dsimp only; omega) ⟨?_, ?_, trivial⟩ (by repeat first | exact trivial | refine ⟨rfl, ?_⟩) trivial (by repeat first | exact trivial | refine ⟨rfl, ?_⟩) rfl rfl rfl
      · show some (SV.v (.slice p' _ c')) = _
        simp
      · show some (SV.v (.int .i64 _)) = _
        rw [i64_wrap (by omega) (by omega)]; simp
    · simp only [decide_eq_false_iff_not] at hq
      have hk' : k = ls.length := by omega
      subst hk'
      rw [List.take_length] at hd
      subst hd
      exact W_ret hte rfl ⟨q, c2, rfl, X, Le.refl _, hN⟩
end Go.Fw
/- The walk of slices.SortFunc at lines, by fund. -/
namespace Go.Fw
open Go.Proofs Go.RowKit Go.Shelf Go.Sort
def cmpI (a b : Int) : Int := if a < b then -1 else if a > b then 1 else 0
theorem cmp_isNaN (X : Hp) (a : Int) : Trip Tryz.prog 326 #[.int .i64 a] X (Pu (.bool (a != a)) X) := by
  refine enter (args := [.int .i64 a]) Tryz.func326 rfl (by decide) rfl fun w0 => ?_
  refine sx hte rfl ?_
  exact W_ret hte rfl ⟨rfl, rfl⟩
theorem cmp_Compare (X : Hp) (a b : Int) : Trip Tryz.prog 283 #[.int .i64 a, .int .i64 b] X (Pu (.int .i64 (cmpI a b)) X) := by
  refine enter (args := [.int .i64 a, .int .i64 b]) Tryz.func283 rfl (by decide) rfl fun w0 => ?_
  refine sx hte rfl ?_
  have ha := cmp_isNaN X a
  have hb := cmp_isNaN X b
  rw [bne_self_eq_false] at ha hb
  refine W_callP rfl rfl ha rfl ?_
  refine sx hte rfl ?_
  refine W_callP rfl rfl hb rfl ?_
  refine sx hte rfl ?_
  refine W_false rfl (sx hte rfl ?_)
  refine W_false rfl (sx hte rfl ?_)
  unfold cmpI
  refine W_if rfl (fun h1 => sx hte rfl ?_) (fun h1 => sx hte rfl ?_)
  · rw [if_pos (by simpa using h1)]
    exact W_ret hte rfl ⟨rfl, rfl⟩
  rw [if_neg (by simpa using h1)]
  refine W_if rfl (fun h2 => sx hte rfl ?_) (fun h2 => sx hte rfl ?_)
  · rw [if_pos (by simpa using h2)]
    exact W_ret hte rfl ⟨rfl, rfl⟩
  rw [if_neg (by simpa using h2)]
  exact W_ret hte rfl ⟨rfl, rfl⟩
theorem funds_cmp (X : Hp) (x y : Line) : Trip Tryz.prog 282 #[.agg x.cells.toArray, .agg y.cells.toArray] X (Pu (.int .i64 (cmpI x.fund y.fund)) X) := by
  refine enter (args := [.agg x.cells.toArray, .agg y.cells.toArray]) Tryz.func282 rfl (by decide) rfl fun w0 => ?_
  refine sx hte rfl ?_
  refine W_callP rfl rfl (cmp_Compare X x.fund y.fund) rfl ?_
  refine sx hte rfl ?_
  exact W_ret hte rfl ⟨rfl, rfl⟩
theorem ltOf_cmpI (x y : Line) : ltOf (fun x y : Line => cmpI x.fund y.fund) x y = decide (x.fund < y.fund) := by
  unfold ltOf cmpI
  by_cases h : x.fund < y.fund
  · simp [h]
  · by_cases h2 : x.fund > y.fund <;> simp [h, h2]
theorem swo_fund : SWO (ltOf fun x y : Line => cmpI x.fund y.fund) := by
  refine ⟨fun x => by rw [ltOf_cmpI]; simp, fun x y z h1 h2 => by rw [ltOf_cmpI] at *; simp at *; omega, fun x y z h1 h2 => ?_⟩
  rw [ltOf_cmpI] at *; simp at *; omega
instance : Inhabited Line := ⟨Line.zero⟩
theorem sort_Line (X Y : Hp) (p : Option Addr) (c : Nat) (l : List Line) (hN : New Y X 45 4 p c (lcells l)) (hn : l.length ≤ 2147483000) :
    Trip Tryz.prog 281 #[.slice p l.length c, .func (.func 282) #[] #[]] X (Rt fun r X' => r = .tuple #[] ∧ ∃ l', New Y X' 45 4 p c (lcells l') ∧ l'.length = l.length ∧ l'.Perm l ∧ l'.Pairwise fun a b => ¬ b.fund < a.fund) := by
  refine ⟨enters_of Tryz.func281 (by kernel_rfl) rfl, fun w hs => ?_⟩
  by_cases hne : l = []
  · subst hne
    have hcon := AnyF.slices_SortFunc_none Tryz.sfLine p c (.func (.func 282) #[] #[]) w
    change Calls Tryz.prog 281 _ _ _ at hcon
    refine hcon.mono ?_
    rintro e w' ⟨rfl, rfl⟩
    exact ⟨X, hs, Ev.refl _ _, Dom.refl _ _, rfl, [], hN, rfl, List.Perm.refl _, List.Pairwise.nil⟩
  have hN' := hN
  obtain ⟨hu, hN⟩ := hN
  rcases hN with ⟨h, _⟩ | ⟨b, sp, rfl, hb, rfl, hlen, hcap⟩
  · exact absurd (List.map_eq_nil_iff.1 h) hne
  have h4 : ∀ z : Line, z.cells.length = 4 := fun z => rfl
  have hbw := hs b _ (Hp.upd_same _ _ _)
  have hblk : b < w.heap.size := lt_of_heap hbw
  have hsY : Sub Y w := fun i o hi => hs i o (by rw [Hp.upd_ne _ _ (fun e => by rw [e, hb] at hi; cases hi)]; exact hi)
  have hfl : (flatK Line.cells 4 l.toArray).toList = (lcells l).flatten := flatK_list _ 4 h4 (by decide) l
  have hSub : ∀ (m : Nat) (os : Array Obj) (dk : Array Line), Sub Y (sortWorldK Line.cells 4 w b 0 m dk os) := fun m os dk i o hi => by
    have hib : i ≠ b := fun e => by rw [e, hb] at hi; cases hi
    have h1 := hsY i o hi
    have h2 := lt_of_heap h1
    simp only [sortWorldK, grow, putRowK, putRow, mapBlock]
    rw [Array.getElem?_append, if_pos (by simpa using h2), Array.getElem?_modify, if_neg (Ne.symm hib)]
    exact h1
  have hcmp : CmpLays Tryz.prog 282 #[] Line.cells 4 (fun x y : Line => cmpI x.fund y.fund) b 0 l.toArray.size w := fun m os dk _ x y => by
    have h1 := (funds_cmp Y x y).2 _ (hSub m os dk)
    refine h1.mono ?_
    rintro e w' ⟨X', hs', hev, _, hq⟩
    cases e with
    | returned v =>
      obtain ⟨rfl, rfl⟩ := hq
      obtain ⟨q, os', hw⟩ := grown_of (hSub m os dk) hs' hev (Le.refl _)
      exact ⟨rfl, q, os', hw⟩
    | panicked c => exact hq.elim
    | outgrown => exact hq.elim
  have hH : HoldsK Line.cells 4 w b 0 l.toArray := fun j hj => by
    have hj' : j < (lcells l).flatten.length := by rw [← hfl]; simpa using hj
    have e : (flatK Line.cells 4 l.toArray)[j]! = (lcells l).flatten[j] := by
      rw [getElem!_pos _ j hj, ← Array.getElem_toList]
      simp only [hfl]
    rw [e]
    refine ⟨?_, by simp [World.frozen?, hbw]⟩
    simp only [World.cell?, hbw]
    rw [if_neg (by simp), Nat.zero_add, List.getElem?_toArray, List.getElem?_append_left hj', List.getElem?_eq_getElem hj']; rfl
  have hcon := AnyQ.slices_SortFunc Tryz.sfLine 4 Tryz.isAgg45 Tryz.sizeOf45 Line.cells h4 (fun z v hv => by
    simp only [Line.cells, List.mem_cons, List.not_mem_nil, or_false] at hv
    rcases hv with rfl | rfl | rfl | rfl <;> rfl) (fun x y : Line => cmpI x.fund y.fund) swo_fund 282 #[] b 0 c l.toArray w (enters_of Tryz.func282 (by kernel_rfl) rfl) hcmp hH hblk (by simp; omega)
  change Calls Tryz.prog 281 _ _ _ at hcon
  rw [show l.toArray.size = l.length by simp] at hcon
  refine hcon.mono ?_
  rintro e w' ⟨rfl, d', n, os, hp, hsrt, rfl⟩
  obtain ⟨hp1, _, hp3⟩ := hp
  have hdl : d'.toList.length = l.length := by rw [Array.length_toList, hp1]; simp
  have hperm : d'.toList.Perm l := by
    have e1 : (d'.extract 0 l.length).toList = d'.toList := by
      rw [Array.toList_extract, ← hdl]; simp only [List.extract_eq_take_drop, List.drop_zero, Nat.sub_zero, List.take_length]
    have e2 : (l.toArray.extract 0 l.length).toList = l := by rw [Array.toList_extract]; simp [List.extract_eq_take_drop]
    rw [e1, e2] at hp3; exact hp3
  have hF : (flatK Line.cells 4 d').toList = (lcells d'.toList).flatten := by
    have := flatK_list Line.cells 4 h4 (by decide) d'.toList
    simpa [lcells] using this
  have hu' : ∀ v ∈ lcells d'.toList, v.length = 4 := fun v hv => by
    obtain ⟨z, _, rfl⟩ := List.mem_map.1 hv; rfl
  have hFl : (lcells d'.toList).flatten.length = (lcells l).flatten.length := by rw [flat_len hu', flat_len hu, lcells_length, lcells_length, hdl]
  have hput : putCells id 0 (flatK Line.cells 4 d') ((lcells l).flatten ++ sp).toArray = ((lcells d'.toList).flatten ++ sp).toArray := by
    have hsz : (flatK Line.cells 4 d').size = (lcells l).flatten.length := by rw [← Array.length_toList, hF, hFl]
    apply Array.ext_getElem?
    intro i
    simp only [putCells, Array.getElem?_mapIdx, List.getElem?_toArray, Nat.zero_le, true_and, Nat.zero_add, Nat.sub_zero, hsz, id]
    rcases Nat.lt_or_ge i (lcells l).flatten.length with h | h
    · rw [List.getElem?_append_left h, List.getElem?_eq_getElem h, List.getElem?_append_left (by rw [hFl]; exact h)]
      simp only [Option.map_some, if_pos h]
      rw [← hF, Array.getElem?_toList, Array.getElem?_eq_getElem (by rw [hsz]; exact h), getElem!_pos _ i (by rw [hsz]; exact h)]
    · rw [List.getElem?_append_right h, List.getElem?_append_right (by rw [hFl]; exact h), hFl]
      cases sp[i - (lcells l).flatten.length]? with
      | none => rfl
      | some y => simp only [Option.map_some, if_neg (Nat.not_lt.2 h)]
  have hb' : (sortWorldK Line.cells 4 w b 0 n d' os).heap[b]? = some (.cells ((lcells d'.toList).flatten ++ sp).toArray 45 (0, 0)) := by
    simp only [sortWorldK, grow, putRowK, putRow, mapBlock]
    rw [Array.getElem?_append, if_pos (by simpa using hblk), Array.getElem?_modify, if_pos rfl]
    show Option.map _ w.heap[b]? = _
    rw [hbw]
    simp only [Option.map_some, onCells, hput]
  have hold : ∀ i o, i ≠ b → w.heap[i]? = some o → (sortWorldK Line.cells 4 w b 0 n d' os).heap[i]? = some o := fun i o hib h1 => by
    have h2 := lt_of_heap h1
    simp only [sortWorldK, grow, putRowK, putRow, mapBlock]
    rw [Array.getElem?_append, if_pos (by simpa using h2), Array.getElem?_modify, if_neg (Ne.symm hib)]
    exact h1
  refine ⟨Y.upd b (.cells ((lcells d'.toList).flatten ++ sp).toArray 45 (0, 0)), fun i o hi => ?_, ⟨rfl, rfl, rfl, Nat.le_add_right _ _, ?_, fun i o h1 h2 => hold i o (fun e => by rw [e, Hp.upd_same] at h2; cases h2) h1⟩, fun i hi => ?_, rfl, d'.toList, ⟨hu', .inr ⟨b, sp, rfl, hb, rfl, by rw [← hlen]; simp only [List.length_append, hFl], by rw [lcells_length, hdl]; simpa [lcells_length] using hcap⟩⟩, hdl, hperm, ?_⟩
  · by_cases e : i = b
    · subst e; rw [Hp.upd_same] at hi; rw [← hi]; exact hb'
    · rw [Hp.upd_ne _ _ e] at hi; exact hold i o e (hsY i o hi)
  · simp [sortWorldK, grow, putRowK, putRow, mapBlock]
  · left
    by_cases e : i = b
    · subst e; rw [Hp.upd_same]; simp
    · rw [Hp.upd_ne _ _ e] at hi ⊢; exact hi
  · rw [List.pairwise_iff_getElem]
    intro i j hi hj hij
    have := hsrt i j (Nat.zero_le _) hij (by rw [← hdl]; exact hj)
    rw [getElem!_pos d' j (by simpa using hj), getElem!_pos d' i (by simpa using hi), ltOf_cmpI] at this
    simpa using this
end Go.Fw
/- The walk of lines.Funds. -/
namespace Go.Fw
open Go.Proofs
theorem imtI : I.MapT te 330 3 3 (.int .i64 0) := ⟨⟨_, rfl, rfl⟩, ⟨_, rfl, rfl⟩, ⟨_, rfl, rfl⟩⟩
theorem I.IterX.le {X X' : Hp} {b r : Nat} {todo : I.KV} {cur : Option (Int × Value)} (h : I.IterX X b r todo cur) (hl : ∀ i o, X i = some o → (∀ cs T fz, o ≠ .cells cs T fz) → X' i = some o) : I.IterX X' b r todo cur := by
  obtain ⟨es, clock, kv, seen, h1, h2, h3⟩ := h
  exact ⟨es, clock, kv, seen, hl _ _ h1 (fun _ _ _ e => by cases e), hl _ _ h2 (fun _ _ _ e => by cases e), h3⟩
theorem I.IterX.obj {X : Hp} {b r : Nat} {todo : I.KV} {cur : Option (Int × Value)} (h : I.IterX X b r todo cur) : ∃ q, X b = some q ∧ ∀ cs T fz, q ≠ .cells cs T fz := by
  obtain ⟨es, clock, kv, seen, h1, _⟩ := h
  exact ⟨_, h1, fun _ _ _ e => by cases e⟩
theorem I.IterX.drop {X : Hp} {b r : Nat} {todo : I.KV} {cur : Option (Int × Value)} (h : I.IterX X b r todo cur) : I.IterX X b r todo none := by
  obtain ⟨es, clock, kv, seen, h1, h2, h3, h4, h5⟩ := h
  exact ⟨es, clock, kv, seen, h1, h2, h3, h4, fun p e => by cases e⟩
def encM (m : List (Int × Int)) : I.KV := m.map fun p => (p.1, .int .i64 p.2)
theorem encM_get (g : Int) : ∀ m, I.getK g (encM m) = (lkF g m).map fun n => .int .i64 n := by
  intro m
  induction m with
  | nil => rfl
  | cons p m ih =>
    obtain ⟨a, n⟩ := p
    simp only [encM, List.map_cons, I.getK, lkF, beq_iff_eq] at ih ⊢
    by_cases e : a = g
    · rw [if_pos e.symm, if_pos e]; rfl
    · rw [if_neg (Ne.symm e), if_neg e]; exact ih
def setF (f n : Int) : List (Int × Int) → List (Int × Int)
  | [] => [(f, n)]
  | (a, m) :: r => if f = a then (f, n) :: r else (a, m) :: setF f n r
theorem encM_set (f n : Int) : ∀ m, I.setK f (.int .i64 n) (encM m) = encM (setF f n m) := by
  intro m
  induction m with
  | nil => rfl
  | cons p m ih =>
    obtain ⟨a, k⟩ := p
    simp only [encM, List.map_cons, I.setK, setF, beq_iff_eq] at ih ⊢
    by_cases e : f = a
    · rw [if_pos e, if_pos e]; rfl
    · rw [if_neg e, if_neg e, ih]; rfl
theorem lkF_setF (f n g : Int) : ∀ m, lkF g (setF f n m) = if g = f then some n else lkF g m := by
  intro m
  induction m with
  | nil =>
    simp only [setF, lkF]
    by_cases e : g = f
    · simp [e]
    · rw [if_neg (Ne.symm e), if_neg e]
  | cons p m ih =>
    obtain ⟨a, k⟩ := p
    simp only [setF]
    by_cases e : f = a
    · subst e
      rw [if_pos rfl]
      simp only [lkF]
      by_cases e : f = g
      · simp [e]
      · rw [if_neg e, if_neg (Ne.symm e), if_neg e]
    · rw [if_neg e]
      simp only [lkF, ih]
      by_cases e2 : a = g
      · subst e2; rw [if_pos rfl, if_neg (Ne.symm e), if_pos rfl]
      · rw [if_neg e2, if_neg e2]
structure FI where
  k : Nat
  m : List (Int × Int)
  X : Hp
structure GI where
  td : List (Int × Int)
  dm : List (Int × Int)
  p : Option Addr
  c : Nat
  X : Hp
theorem le_fresh {X Xi : Hp} {r : Nat} (hl : Le X Xi) (hr : X r = none) (o : Obj) : Le X (Xi.upd r o) := fun i q hi => by
  rw [Hp.upd_ne _ _ (fun e => by rw [e, hr] at hi; cases hi)]; exact hl i q hi
theorem lines_Funds (X : Hp) (a : Option Addr) (l : List Line) (c : Nat) (hA : Arr X 45 4 a (lcells l)) (hl : l.length ≤ 1000000) :
    Trip Tryz.prog 227 #[.slice a l.length c] X (Rt fun r X' => ∃ p c, r = .slice p (fundsOf l).length c ∧ Nw X X' 45 4 p c (lcells (fundsOf l))) := by
  refine enter (args := [.slice a l.length c]) Tryz.func227 rfl (by decide) rfl fun w0 => ?_
  refine sx hte rfl ?_
  refine W_makeMap fun rm hrm => ⟨_, rfl, ?_⟩
  refine sx hte rfl ?_
  refine W_for (ι := FI) (fun i => i.k ≤ l.length ∧ Le X i.X ∧ I.MapX i.X rm (encM i.m) ∧ i.m.length ≤ i.k ∧ ∀ f, lkF f i.m = lkF f (sumsF (l.take i.k))) (fun i => l.length - i.k) [12]
    (fun i => [(12, .v (.int .i64 i.k))]) [] (fun _ => []) FI.X ⟨0, [], _⟩ ⟨Nat.zero_le _, Le.upd _ hrm, ⟨#[], 0, Hp.upd_same _ _ _, I.MapAt.empty⟩, Nat.le_refl _, fun _ => rfl⟩
    ⟨rfl, trivial⟩ trivial rfl rfl rfl fun i hi => ?_
  obtain ⟨k, m, Xi⟩ := i
  obtain ⟨hk, hL, hM, hml, hlk⟩ := hi
  simp only at hk hL hM hml hlk ⊢
  refine sx hte rfl ?_
  refine W_if rfl (fun hq => sx hte rfl ?_) (fun hq => sx hte rfl ?_)
  · simp only [decide_eq_true_eq] at hq
    have hk' : k < l.length := by omega
    have hrow : (lcells l)[k]? = some l[k].cells := by simp [lcells, hk']
    refine W_idx (m := k) hte rfl rfl rfl rfl rfl (hA.ck hL.ck) rfl (by omega) hrow rfl fun bb o => ?_
    refine sx hte rfl ?_
    have hlk2 : ∀ f, lkF f (setF l[k].fund (w64 ((lkF l[k].fund m).getD 0 + l[k].amount)) m) = lkF f (sumsF (l.take (k + 1))) := fun f => by
      have e : sumsF (l.take (k + 1)) = addF l[k].fund l[k].amount (sumsF (l.take k)) := by
        unfold sumsF; rw [List.take_succ_eq_append_getElem hk', List.foldl_append]; rfl
      rw [e, lkF_addF (show Ris (sumsF (l.take k)) from sumsF_ris _ [] List.Pairwise.nil), lkF_setF, hlk, hlk]
    generalize l[k] = x at hlk2 ⊢
    refine I.W_lookup1 hte imtI rfl rfl hM rfl ?_
    rw [encM_get, show ((lkF x.fund m).map fun n => Value.int .i64 n).getD (.int .i64 0) = .int .i64 ((lkF x.fund m).getD 0) by cases lkF x.fund m <;> rfl]
    refine sx hte rfl ?_
    refine I.W_mapset hte imtI rfl rfl rfl rfl hM fun es clock hes => ⟨_, rfl, ?_⟩
    refine sx hte rfl ?_
    rw [encM_set] at hes
    have hsl : (setF x.fund (w64 ((lkF x.fund m).getD 0 + x.amount)) m).length ≤ m.length + 1 := by
      have : ∀ (f n : Int) (m : List (Int × Int)), (setF f n m).length ≤ m.length + 1 := by
        intro f n m
        induction m with
        | nil => simp [setF]
        | cons p m ih => obtain ⟨a, k⟩ := p; simp only [setF]; split <;> simp; exact ih
      exact this _ _ _
    refine W_again ⟨k + 1, setF x.fund (w64 ((lkF x.fund m).getD 0 + x.amount)) m, _⟩ ⟨by dsimp only; omega, le_fresh hL hrm _, ⟨es, clock, Hp.upd_same _ _ _, hes⟩, by dsimp only; omega, hlk2⟩ (by dsimp only; omega) ⟨?_, trivial⟩ (by repeat first | exact trivial | refine ⟨rfl, ?_⟩) trivial (by repeat first | exact trivial | refine ⟨rfl, ?_⟩) rfl rfl rfl
    show some (SV.v (.int .i64 _)) = _
    rw [i64_wrap (by omega) (by omega)]; simp
  · simp only [decide_eq_false_iff_not] at hq
    have hk' : k = l.length := by omega
    subst hk'
    rw [List.take_length] at hlk
    refine I.W_range hte imtI rfl hM fun ib o hib hit => ⟨_, rfl, ?_⟩
    refine sx hte rfl ?_
    have hXib : X ib = none := by
      cases e : X ib with
      | none => rfl
      | some z => rw [hL _ _ e] at hib; cases hib
    have hmn : (m.map (·.1)).Nodup := by
      obtain ⟨es, clock, _, hat⟩ := hM
      have := hat.keys
      unfold encM at this
      rwa [List.map_map] at this
    refine W_for (ι := GI) (fun i => I.IterX i.X ib rm (encM i.td) none ∧ Nw X i.X 45 4 i.p i.c (lcells (i.dm.map toL)) ∧ (i.dm ++ i.td).Perm m) (fun i => i.td.length) [6]
      (fun i => [(6, .v (.slice i.p i.dm.length i.c))]) [] (fun _ => []) GI.X ⟨m, [], none, 0, _⟩ ⟨hit, ⟨_, hL.trans (Le.upd _ hib), New.nil _ _ _⟩, List.Perm.refl _⟩
      ⟨rfl, trivial⟩ trivial rfl rfl rfl fun i hi => ?_
    obtain ⟨td, dm, p, c2, Xj⟩ := i
    obtain ⟨hI, hN, hP⟩ := hi
    simp only at hI hN hP ⊢
    have hdl : dm.length + td.length = m.length := by rw [← hP.length_eq, List.length_append]
    refine sx hte rfl ?_
    refine I.W_next rfl hI (fun h0 => ⟨_, rfl, ?_⟩) (fun t1 e t2 o2 ht hI2 => ⟨_, rfl, ?_⟩)
    · refine sx hte rfl ?_
      refine W_false rfl (sx hte rfl ?_)
      have htd : td = [] := List.map_eq_nil_iff.1 h0
      subst htd
      rw [List.append_nil] at hP
      obtain ⟨Y, hlY, hNY⟩ := hN
      have hS := sort_Line Xj Y p c2 (dm.map toL) hNY (by simp; omega)
      rw [show (dm.map toL).length = dm.length by simp] at hS
      refine W_call rfl rfl hS ?_
      rintro r X' ⟨rfl, l', hN', hl', hp', hs'⟩
      refine ⟨fun _ _ _ _ _ hl => (by cases hl), _, rfl, ?_⟩
      refine sx hte rfl ?_
      have e : l' = fundsOf l := funds_eq hmn hlk (hp'.trans (hP.map toL)) hs'
      rw [← hl', e]
      rw [e] at hN'
      exact W_ret hte rfl ⟨p, c2, rfl, Y, hlY, hN'⟩
    · obtain ⟨q0, hq0, hq1⟩ := hI.obj
      have hN2 : Nw X (Xj.upd ib o2) 45 4 p c2 (lcells (dm.map toL)) := hN.iter hXib hq0 hq1
      generalize Xj.upd ib o2 = Xk at hI2 hN2 ⊢
      obtain ⟨d1, d23, htd, ht1, ht23⟩ := List.map_eq_append_iff.1 ht
      obtain ⟨z, d2, hd23, hz, ht2⟩ := List.map_eq_cons_iff.1 ht23
      subst hd23 htd
      subst hz
      simp only at hI2 ⊢
      refine sx hte rfl ?_
      refine W_true rfl (sx hte rfl ?_)
      refine I.W_entry rfl hI2 rfl ?_
      refine sx hte rfl ?_
      obtain ⟨Y, hlY, hNY⟩ := hN2
      refine W_app (us := [Line.cells (toL z)]) hte rfl rfl rfl rfl rfl rfl rfl (by decide) hNY (by simp [lcells]) (by simp [Line.cells]; rfl) rfl (Src.lab rfl rfl rfl) (by simp [one, Line.cells]) (by simp only [List.length_cons, List.length_nil]; omega) fun p' c' X' (hN' : New _ _ _ 4 _ _ _) => ⟨_, rfl, ?_⟩
      refine sx hte rfl ?_
      refine W_again ⟨d1 ++ d2, dm ++ [z], p', c', X'⟩ ⟨?_, ⟨Y, hlY, by simpa [lcells] using hN'⟩, ?_⟩ (by dsimp only; simp) ⟨?_, trivial⟩ (by repeat first | exact trivial | refine ⟨rfl, ?_⟩) trivial (by repeat first | exact trivial | refine ⟨rfl, ?_⟩) rfl rfl rfl
      · have : encM (d1 ++ d2) = t1 ++ t2 := by rw [← ht1, ← ht2]; simp [encM]
        rw [this]
        exact hI2.drop.le fun i o hi hnc => hN'.le _ _ (hNY.nc hi hnc)
      · refine List.Perm.trans ?_ hP
        rw [List.append_assoc]
        refine List.Perm.append_left _ ?_
        simp only [List.singleton_append]
        exact (List.perm_middle).symm
      · show some (SV.v (.slice p' _ c')) = _
        simp
end Go.Fw
/- The walks of interfund lines, of an entry put, and of a new expenditure. -/
namespace Go.Fw
open Go.Proofs
theorem addF_length (f n : Int) : ∀ t, (addF f n t).length ≤ t.length + 1 := by
  intro t
  induction t with
  | nil => simp [addF]
  | cons p t ih =>
    obtain ⟨a, m⟩ := p
    simp only [addF]
    split
    · simp; exact ih
    · split <;> simp
theorem sumsF_length : ∀ (l : List Line) (acc : List (Int × Int)), (l.foldl (fun acc x => addF x.fund x.amount acc) acc).length ≤ acc.length + l.length := by
  intro l
  induction l with
  | nil => intro acc; simp
  | cons x l ih =>
    intro acc
    have h1 := ih (addF x.fund x.amount acc)
    have h2 := addF_length x.fund x.amount acc
    simp only [List.foldl_cons, List.length_cons]; omega
theorem fundsOf_length (l : List Line) : (fundsOf l).length ≤ l.length := by
  have := sumsF_length l []
  simp [fundsOf, sumsF] at this ⊢; exact this
theorem owed_length (x : Line) : (owed x).length ≤ 1 := by unfold owed; split; simp; split <;> simp
theorem flatMap_owed_length : ∀ l : List Line, (l.flatMap owed).length ≤ l.length := by
  intro l
  induction l with
  | nil => simp
  | cons x l ih =>
    have := owed_length x
    rw [List.flatMap_cons, List.length_append, List.length_cons]; omega
theorem interf_Balance (X : Hp) (p : Option Addr) (l : List Line) (c : Nat) (hA : Arr X 45 4 p (lcells l)) (hl : l.length ≤ 1000000) :
    Trip Tryz.prog 185 #[.slice p l.length c] X (Rt fun r X' => ∃ p c, r = .slice p (interfBal l).length c ∧ Nw X X' 45 4 p c (lcells (interfBal l))) := by
  refine enter (args := [.slice p l.length c]) Tryz.func185 rfl (by decide) rfl fun w0 => ?_
  refine sx hte rfl ?_
  refine W_call rfl rfl (lines_Funds X p l c hA hl) ?_
  rintro r X1 ⟨p1, c1, rfl, hN1⟩
  refine ⟨hN1.le.ck.kx, _, rfl, sx hte rfl ?_⟩
  have hfl := fundsOf_length l
  unfold interfBal
  generalize fundsOf l = fl at hN1 hfl ⊢
  refine W_for (ι := LI) (fun i => i.k ≤ fl.length ∧ i.done = (fl.take i.k).flatMap owed ∧ i.done.length ≤ i.k ∧ Nw X1 i.X 45 4 i.p i.c (lcells i.done)) (fun i => fl.length - i.k) [3, 9]
    (fun i => [(3, .v (.slice i.p i.done.length i.c)), (9, .v (.int .i64 i.k))]) [] (fun _ => []) LI.X ⟨0, [], none, 0, X1⟩ ⟨by simp, rfl, by simp, Nw.nil _ _ _⟩
    ⟨rfl, rfl, trivial⟩ trivial rfl rfl rfl fun i hi => ?_
  obtain ⟨k, done, q, c2, Xi⟩ := i
  obtain ⟨hk, hd, hlen, hN⟩ := hi
  simp only at hk hd hlen hN ⊢
  refine sx hte rfl ?_
  refine W_if rfl (fun hq => sx hte rfl ?_) (fun hq => sx hte rfl ?_)
  · simp only [decide_eq_true_eq] at hq
    have hk' : k < fl.length := by omega
    have hrow : (lcells fl)[k]? = some fl[k].cells := by simp [lcells, hk']
    refine W_idx (m := k) hte rfl rfl rfl rfl rfl (hN1.arr.ck hN.le.ck) rfl (by omega) hrow rfl fun bb o => ?_
    refine sx hte rfl ?_
    have hd2 : (fl.take (k + 1)).flatMap owed = done ++ owed fl[k] := by
      rw [hd, List.take_succ_eq_append_getElem hk', List.flatMap_append]; simp
    generalize fl[k] = x at hd2 ⊢
    refine W_call rfl rfl (interf_owed Xi x) ?_
    rintro r X3 ⟨p3, c3, rfl, hN3⟩
    refine ⟨hN3.le.ck.kx, _, rfl, sx hte rfl ?_⟩
    obtain ⟨Y, hlY, hNY⟩ := hN.re hN3.le
    have h2 := owed_length x
    refine W_app (us := lcells (owed x)) hte rfl rfl rfl rfl rfl rfl rfl (by decide) hNY (lcells_length _).symm (by simp [lcells, Line.cells]; intros; rfl) (lcells_length _).symm (Src.row rfl hN3.arr (lcells_length _).symm) (fun v hv => by
      simp only [lcells, List.mem_flatten, List.mem_map] at hv
      obtain ⟨_, ⟨z, _, rfl⟩, hv⟩ := hv
      simp only [Line.cells, List.mem_cons, List.not_mem_nil, or_false] at hv
      rcases hv with rfl | rfl | rfl | rfl <;> rfl) (by omega) fun p' c' X' (hN' : New _ _ _ 4 _ _ _) => ⟨_, rfl, ?_⟩
    refine sx hte rfl ?_
    rw [lcells_append] at hN'
    refine W_again ⟨k + 1, done ++ owed x, p', c', X'⟩ ⟨by dsimp only; omega, hd2.symm, by simp; omega, Y, hlY, hN'⟩ (by dsimp only; omega) ⟨?_, ?_, trivial⟩ (by repeat first | exact trivial | refine ⟨rfl, ?_⟩) trivial (by repeat first | exact trivial | refine ⟨rfl, ?_⟩) rfl rfl rfl
    · show some (SV.v (.slice p' _ c')) = _
      simp
    · show some (SV.v (.int .i64 _)) = _
      rw [i64_wrap (by omega) (by omega)]; simp
  · simp only [decide_eq_false_iff_not] at hq
    have hk' : k = fl.length := by omega
    subst hk'
    rw [List.take_length] at hd
    subst hd
    obtain ⟨Y, hlY, hNY⟩ := hN
    exact W_ret hte rfl ⟨q, c2, rfl, Y, hN1.le.trans hlY, hNY⟩
theorem interf_All (X : Hp) (p : Option Addr) (l : List Line) (c : Nat) (hA : Arr X 45 4 p (lcells l)) (hc : l.length ≤ c) (hl : l.length ≤ 100000) :
    Trip Tryz.prog 129 #[.slice p l.length c] X (Rt fun r X' => ∃ p c, r = .slice p (interfAll l).length c ∧ Nw X X' 45 4 p c (lcells (interfAll l))) := by
  refine enter (args := [.slice p l.length c]) Tryz.func129 rfl (by decide) rfl fun w0 => ?_
  refine sx hte rfl ?_
  refine W_call rfl rfl (interf_Balance X p l c hA (by omega)) ?_
  rintro r X1 ⟨p1, c1, rfl, hN1⟩
  refine ⟨hN1.le.ck.kx, _, rfl, sx hte rfl ?_⟩
  refine W_layN 0 1 2 [[.slice p l.length c], [.slice p1 (interfBal l).length c1]] rfl rfl (by simp) rfl (fun _ => rfl) rfl fun b1 X2 hN2 => ?_
  have hfl := fundsOf_length l
  have hbl : (interfBal l).length ≤ l.length := by
    have := flatMap_owed_length (fundsOf l); unfold interfBal; omega
  have hcap : (interfBal l).length ≤ c1 := by have := hN1.cap; rwa [lcells_length] at this
  have hT := concat_Line X2 _ [.slice p l.length c, .slice p1 (interfBal l).length c1] [l, interfBal l] 2 hN2.arr ⟨⟨p, c, rfl, hA.ck (hN1.le.trans hN2.le).ck, hc⟩, ⟨p1, c1, rfl, hN1.arr.ck hN2.le.ck, hcap⟩, trivial⟩ (by simp) (by simp; omega)
  refine W_call rfl rfl hT ?_
  rintro r X3 ⟨p3, c3, rfl, hN3⟩
  refine ⟨hN3.le.ck.kx, _, rfl, sx hte rfl ?_⟩
  have e : [l, interfBal l].flatten = interfAll l := by simp [interfAll]
  rw [e] at hN3 ⊢
  obtain ⟨Y, hlY, hNY⟩ := hN3
  exact W_ret hte rfl ⟨p3, c3, rfl, Y, (hN1.le.trans hN2.le).trans hlY, hNY⟩
theorem len200_t {n : Nat} (h : (((n : Int) == 0) || decide ((n : Int) > 200)) = true) : n = 0 ∨ n > 200 := by
  rcases Bool.or_eq_true _ _ ▸ h with h | h
  · have := eq_of_beq h; omega
  · have := of_decide_eq_true h; omega
theorem len200_f {n : Nat} (h : (((n : Int) == 0) || decide ((n : Int) > 200)) = false) : ¬ (n = 0 ∨ n > 200) := by
  rw [Bool.or_eq_false_iff] at h
  have h1 := ne_of_beq_false h.1
  have h2 := of_decide_eq_false h.2
  omega
theorem entry_Put (X : Hp) (b : Nat) (e : Entry) (p : Option Addr) (l : List Line) (c : Nat) (s : VS) (h : VM X (pv b) s) (hA : Arr X 45 4 p (lcells l)) (hc : l.length ≤ c) :
    Trip Tryz.prog 73 #[pv b, .agg e.cells.toArray, .slice p l.length c] X (Rt fun r X' => r = .tuple #[.int .i64 (entPut e l s).1.1, .int .i64 (entPut e l s).1.2] ∧ CK X X' ∧ VM X' (pv b) (entPut e l s).2) := by
  refine enter (args := [pv b, .agg e.cells.toArray, .slice p l.length c]) Tryz.func73 rfl (by decide) rfl fun w0 => ?_
  refine sx hte rfl ?_
  unfold entPut
  refine W_if rfl (fun h1 => sx hte rfl ?_) (fun h1 => sx hte rfl ?_)
  · rw [if_pos (len200_t h1)]
    exact W_ret hte rfl ⟨rfl, CK.refl _, h⟩
  rw [if_neg (len200_f h1)]
  have hl := len200_f h1
  refine W_drawX (Xs := X.cl) [] mo (by kernel_rfl) (by kernel_rfl) rfl (Hp.cl_le _) ?_
  refine dx hte rfl ?_
  refine WD_1 rfl (SD_callL (Hp.cl_le _) rfl rfl rfl (interf_All X p l c hA hc (by omega)) ?_)
  rintro r X3 ⟨p3, c3, rfl, hN3⟩
  refine ⟨hN3.le, _, rfl, ?_⟩
  refine dx hte rfl ?_
  have hal : (interfAll l).length ≤ 1000000 := by
    have hfl := fundsOf_length l
    have := flatMap_owed_length (fundsOf l)
    unfold interfAll interfBal; rw [List.length_append]; omega
  refine WD_1 rfl (SD_call rfl rfl rfl (entry_stand X3 b e p3 (interfAll l) c3 s (h.le hN3.le) hN3.arr hal) ?_)
  rintro r4 X4 ⟨rfl, hck4, hV4⟩
  refine ⟨hck4.kx, Hp.cl_ck (hN3.le.ck.trans hck4), _, rfl, ?_⟩
  refine dx hte rfl (WD_done rfl (sx hte rfl ?_))
  exact W_ret hte rfl ⟨rfl, hN3.le.ck.trans hck4, hV4⟩
end Go.Fw
/- The walks of an expenditure booked, and of a new one of nodes. -/
namespace Go.Fw
open Go.Proofs
theorem expLines_length (y : Int) (t : Tab) : ∀ l : List DocLine, (expLines y l t).length ≤ 2 * l.length := by
  intro l
  induction l with
  | nil => simp [expLines]
  | cons x l ih =>
    unfold expLines at ih ⊢
    rw [List.flatMap_cons, List.length_append, List.length_cons]
    have h2 : (expTwo y t x).length ≤ 2 := by rcases expTwo_cases y t x with e | ⟨n, _, e⟩ <;> rw [e] <;> simp
    omega
theorem exp_book (X : Hp) (b : Nat) (y f : Int) (p : Option Addr) (l : List DocLine) (c : Nat) (s : VS) (h : VM X (pv b) s) (hA : Arr X 47 4 p (dcells l)) (hl : l.length ≤ 10000) :
    Trip Tryz.prog 32 #[.agg #[pv b, .int .i64 y, .int .i64 f], .slice p l.length c] X (Rt fun r X' => r = .tuple #[.int .i64 (expBook y f l s).1.1, .int .i64 (expBook y f l s).1.2] ∧ CK X X' ∧ VM X' (pv b) (expBook y f l s).2) := by
  refine enter (args := [.agg #[pv b, .int .i64 y, .int .i64 f], .slice p l.length c]) Tryz.func32 rfl (by decide) rfl fun w0 => ?_
  refine sx hte rfl ?_
  unfold expBook
  refine W_call rfl rfl (docs_Put X b ⟨0, 3, y, f, 0⟩ p l c s h hA) ?_
  rintro r X1 ⟨rfl, hck1, hV1⟩
  refine ⟨hck1.kx, _, rfl, sx hte rfl ?_⟩
  generalize docsPut ⟨0, 3, y, f, 0⟩ l s = q at hV1 ⊢
  obtain ⟨⟨id, e⟩, s1⟩ := q
  simp only at hV1 ⊢
  refine W_if rfl (fun h2 => sx hte rfl ?_) (fun h2 => sx hte rfl ?_)
  · rw [if_pos (by simpa using h2)]
    exact W_ret hte rfl ⟨rfl, hck1, hV1⟩
  rw [if_neg (by simpa using h2)]
  refine W_drawX (Xs := X1.cl) [] mo (by kernel_rfl) (by kernel_rfl) rfl (Hp.cl_le _) ?_
  refine dx hte rfl ?_
  refine WD_1 rfl (SD_callL (Hp.cl_le _) rfl rfl rfl (exp_Lines X1 b y p l c s1 hV1 (hA.ck hck1) (by omega)) ?_)
  rintro r X3 ⟨p3, c3, rfl, hN3⟩
  refine ⟨hN3.le, _, rfl, ?_⟩
  refine dx hte rfl ?_
  have hcap : (expLines y l s1.now).length ≤ c3 := by have := hN3.cap; rwa [lcells_length] at this
  refine WD_1 rfl (SD_call rfl rfl rfl (entry_Put X3 b ⟨0, y, 3, 0, id, 0⟩ p3 (expLines y l s1.now) c3 s1 (hV1.le hN3.le) hN3.arr hcap) ?_)
  rintro r4 X4 ⟨rfl, hck4, hV4⟩
  refine ⟨hck4.kx, Hp.cl_ck (hN3.le.ck.trans hck4), _, rfl, ?_⟩
  refine dx hte rfl (WD_done rfl (sx hte rfl ?_))
  generalize entPut ⟨0, y, 3, 0, id, 0⟩ (expLines y l s1.now) s1 = q at hV4 ⊢
  obtain ⟨⟨id2, e2⟩, s2⟩ := q
  simp only at hV4 ⊢
  have hck := hck1.trans (hN3.le.ck.trans hck4)
  refine W_if rfl (fun h3 => sx hte rfl ?_) (fun h3 => sx hte rfl ?_)
  · rw [if_pos (by simpa using h3)]
    exact W_ret hte rfl ⟨rfl, hck, hV4⟩
  rw [if_neg (by simpa using h3)]
  exact W_ret hte rfl ⟨rfl, hck, hV4⟩
theorem exp_New0 {E : TypeId} (X : Hp) (b : Nat) (y : Int) (p : Option Addr) (l : List Line) (c : Nat) (s : VS) (h : VM X (pv b) s) (hA : Arr X E 4 p (lcells l)) :
    Trip Tryz.prog 9 #[pv b, .int .i64 y, .int .i64 0, .slice p l.length c] X (Rt fun r X' => r = .tuple #[.int .i64 (expNew0 y l s).1.1, .bool (expNew0 y l s).1.2.1, .int .i64 (expNew0 y l s).1.2.2] ∧ CK X X' ∧ VM X' (pv b) (expNew0 y l s).2) := by
  refine enter (args := [pv b, .int .i64 y, .int .i64 0, .slice p l.length c]) Tryz.func9 rfl (by decide) rfl fun w0 => ?_
  refine sx hte rfl ?_
  unfold expNew0 expNewOf
  refine W_call rfl rfl (years_Check X b y s h) ?_
  rintro r X0 ⟨hL0, rfl⟩
  refine ⟨hL0.ck.kx, _, rfl, sx hte rfl ?_⟩
  refine W_if rfl (fun h1 => sx hte rfl ?_) (fun h1 => sx hte rfl ?_)
  · rw [if_pos (by simpa using h1)]
    exact W_ret hte rfl ⟨rfl, hL0.ck, h.le hL0⟩
  rw [if_neg (by simpa using h1)]
  refine W_callP rfl rfl (pre_Check X0 p l c (hA.ck hL0.ck)) rfl ?_
  refine sx hte rfl ?_
  refine W_if rfl (fun h2 => sx hte rfl ?_) (fun h2 => sx hte rfl ?_)
  · rw [if_pos (by simpa using h2)]
    exact W_ret hte rfl ⟨rfl, hL0.ck, h.le hL0⟩
  have h2' : ¬ preCheck l ≠ 0 := by simpa using h2
  rw [if_neg h2']
  have hl6 : l.length ≤ 6 := by
    unfold preCheck at h2'
    by_cases hc : l.length > 6
    · rw [if_pos (.inr (.inl hc))] at h2'; exact absurd (by decide) h2'
    · omega
  refine W_call rfl rfl (exp_lines0 X0 b y p l c (hA.ck hL0.ck) (by omega)) ?_
  rintro r X1 ⟨p1, c1, rfl, hN1⟩
  refine ⟨hN1.le.ck.kx, _, rfl, sx hte rfl ?_⟩
  refine W_false rfl (sx hte rfl ?_)
  simp only
  rw [if_neg (by simp)]
  have hL1 := hL0.trans hN1.le
  have hol : (expOwn0 l).length = l.length := by simp [expOwn0]
  refine W_call rfl rfl (exp_charge X1 b y 0 p1 (expOwn0 l) c1 s (h.le hL1) hN1.arr (by omega)) ?_
  rintro r X2 ⟨rfl, hck2, hV2⟩
  refine ⟨hck2.kx, _, rfl, sx hte rfl ?_⟩
  generalize expCharge y 0 (expOwn0 l) false s = q at hV2 ⊢
  obtain ⟨⟨w, e⟩, s2⟩ := q
  simp only at hV2 ⊢
  refine W_if rfl (fun h3 => sx hte rfl ?_) (fun h3 => sx hte rfl ?_)
  · rw [if_pos (by simpa using h3)]
    exact W_ret hte rfl ⟨rfl, hL1.ck.trans hck2, hV2⟩
  rw [if_neg (by simpa using h3)]
  refine W_call rfl rfl (exp_book X2 b y 0 p1 (expOwn0 l) c1 s2 hV2 (hN1.arr.ck hck2) (by omega)) ?_
  rintro r X3 ⟨rfl, hck3, hV3⟩
  refine ⟨hck3.kx, _, rfl, sx hte rfl ?_⟩
  exact W_ret hte rfl ⟨rfl, hL1.ck.trans (hck2.trans hck3), hV3⟩
end Go.Fw
/- More steps in regions that draw their order: append, store, guarded operations, values read at once. -/
namespace Go.Fw
open Go.Proofs Go.RowKit
section
variable {cx : Cx} {k k' : List It} {σ σ' : Fm} {H H' H0 : Own} {nl nl' : Nat} {X Xs : Hp} {a : Act} {w : World} {ρ : Nat → Nat × Nat} {te : Te} {s : SV} {ops : Array Oper} {o : Oper} {rest : List Oper} {L : List Nat} {i : Nat} {v : Value}
theorem app_step (hte : TeOk cx.P te) {T U E : TypeId} {x y : Operand} {dst : Option Tmp} {ty : TypeId} {pos : String} {after : Array Edge} {X0 : Hp} {p : Option Addr} {n c m : Nat} {ti ei : TI} {vs us : List (List Value)}
    (hx : ev σ x = some (.v (.slice p n c))) (ht : te T = some ti) (hd : ti.desc = .slice E) (he : te E = some ei) (hU : notInt te U = true) (hz : ei.zero.isSome = true) (hzl : (cellsL (ei.zero.getD undef)).length = ei.size) (hby : ei.bytes ≤ 1024)
    (hN : New X0 X E ei.size p c vs) (hn : n = vs.length) (hus : ∀ u ∈ us, u.length = ei.size) (hm : m = us.length) (hS : Src cx σ H nl X ei.size y m us.flatten) (hone : ∀ v ∈ us.flatten, one v = true) (hsmall : n + m ≤ 2147483648)
    (hok : Ok cx σ H nl X a w ρ) : ∃ p' c' X' w', New X0 X' E ei.size p' c' (vs ++ us) ∧ (execOp a.eval { dst := dst, op := .call { callee := .builtin .append, args := #[x, y], argTypes := #[T, U] }, type := ty, pos := pos, after := after, guard := none }).run cx.P w = .ok (.value (.slice p' (n + m) c')) w' ∧ Ok cx σ (dropX H) nl X' a w' ρ := by
  have ex := hok.eval hx trivial
  simp only [SV.den] at ex
  obtain ⟨hlen, hnews, hnl⟩ := hS a w ρ hok
  obtain ⟨hlen', hnews', _⟩ := hS a _ ρ hok.drew
  have hexec : ∀ r w', (Builtin.append_ #[T, U] ty #[.slice p n c, a.eval y]).run cx.P w = .ok r w' → (execOp a.eval { dst := dst, op := .call { callee := .builtin .append, args := #[x, y], argTypes := #[T, U] }, type := ty, pos := pos, after := after, guard := none }).run cx.P w = .ok (.value r) w' := fun r w' h => by
    simp [execOp, resolve, invoke, builtin, ex, h]
  have hun : ∀ v ∈ vs ++ us, v.length = ei.size := fun v hv => by
    rcases List.mem_append.1 hv with h | h
    · exact hN.1 v h
    · exact hus v h
  have hfvs := flat_len hN.1
  have hfus := flat_len hus
  rcases Nat.lt_or_ge c (n + m) with hcap | hcap
  · -- a new block
    have holds : ∃ olds, olds = vs.flatten ∧ (Builtin.firstCells ei.size n (.slice p n c)).run cx.P { w with drawn := w.drawn + 1 } = .ok olds.toArray { w with drawn := w.drawn + 1 } := by
      refine ⟨_, rfl, ?_⟩
      have h1 := Src.row (y := x) hx hN.arr hn a _ ρ hok.drew
      rw [ex] at h1
      exact h1.2.1
    obtain ⟨olds, rfl, holds⟩ := holds
    obtain ⟨c', sp, hc', hsp, hrun⟩ := run_append_grow (w := w) (ty := ty) (olds := vs.flatten) hte ht hd he hU hlen hnews' holds (by intro e; rw [e] at hz; cases hz) hsmall hby hcap
    have hX0 : X0 w.heap.size = none := by
      cases e : X0 w.heap.size with
      | none => rfl
      | some o => have := hok.x_none; rw [hN.le _ o e] at this; cases this
    have hnew : New X0 (X0.upd w.heap.size (.cells ((vs ++ us).flatten ++ sp).toArray E (0, 0))) E ei.size (some ⟨w.heap.size, 0, none⟩) c' (vs ++ us) := by
      refine ⟨hun, .inr ⟨w.heap.size, sp, rfl, hX0, rfl, ?_, ?_⟩⟩
      · rw [List.length_append, flat_len hun, hsp, hzl, List.length_append, ← hn, ← hm, ← Nat.add_mul]
        congr 1; omega
      · rw [List.length_append, ← hn, ← hm]; exact hc'
    refine ⟨_, c', _, _, hnew, hexec _ _ hrun, ?_⟩
    have hok' : Ok cx σ (dropX H) nl (X.upd w.heap.size (.cells ((vs ++ us).flatten ++ sp).toArray E (0, 0))) a { w with drawn := w.drawn + 1, heap := w.heap.push (.cells (vs.flatten ++ us.flatten ++ sp).toArray E) } ρ := by
      refine hok.swap (b := w.heap.size) (by simp) (fun i q hne hi => ?_) (.inr hok.ev.size) (fun l B hl hm' e => ?_) rfl rfl rfl (Nat.le_succ _) (by simp)
      · have := lt_of_heap hi
        simp only [Array.getElem?_push]; rw [if_neg (by omega)]; exact hi
      · have := (hok.mine_none hl hm').2; omega
    have hle : Sub (X0.upd w.heap.size (.cells ((vs ++ us).flatten ++ sp).toArray E (0, 0))) { w with drawn := w.drawn + 1, heap := w.heap.push (.cells (vs.flatten ++ us.flatten ++ sp).toArray E) } := fun i q hi => by
      refine hok'.sub i q ?_
      by_cases e : i = w.heap.size
      · subst e; rw [Hp.upd_same] at hi ⊢; exact hi
      · rw [Hp.upd_ne _ _ e] at hi ⊢; exact hN.le _ _ hi
    refine ⟨hok'.size, hok'.defers, hok'.val, hok'.lab, ?_, hok'.inj, hle, hok'.ev, ?_⟩
    · intro l B hl
      obtain ⟨h1, h2⟩ := hok'.blk l B hl
      refine ⟨h1, ?_⟩
      have hm' := (look_dropX hl).2
      have hxn := (hok.mine_none (look_dropX hl).1 hm')
      have h0 : (X0.upd w.heap.size (.cells ((vs ++ us).flatten ++ sp).toArray E (0, 0))) (ρ l).1 = none := by
        rw [Hp.upd_ne _ _ (by omega)]
        cases e : X0 (ρ l).1 with
        | none => rfl
        | some q => have := hxn.1; rw [hN.le _ q e] at this; cases this
      cases B with
      | own T cs => exact ⟨h2.1, h2.2.1, h0, h2.2.2.2⟩
      | bor c T cs => exact ⟨h2.1, h2.2.1, h0, h2.2.2.2⟩
      | ext c o T cs => cases hm'
    · intro i hi
      by_cases e : i = w.heap.size
      · subst e; exact .inr hok.ev.size
      · rw [Hp.upd_ne _ _ e] at hi
        refine hok.dom i (fun e' => hi ?_)
        cases e'' : X0 i with
        | none => rfl
        | some q => rw [hN.le _ q e''] at e'; cases e'
  · -- there is room
    rcases hN.2 with ⟨rfl, rfl, rfl, rfl⟩ | ⟨b, sp, rfl, hb0, rfl, hl1, hl2⟩
    · have hm0 : m = 0 := by omega
      have hus0 : us = [] := List.eq_nil_of_length_eq_zero (by omega)
      subst hus0
      have hn0 : n = 0 := by simpa using hn
      subst hn0
      subst hm0
      have hrun := run_append_none (w := w) (ty := ty) hte ht hd he hU hlen hnews
      refine ⟨none, 0, _, _, (by simpa using New.nil _ E ei.size), hexec _ _ hrun, ?_⟩
      exact hok.weaken (fun _ _ e => e) (fun l C hl => (look_dropX hl).1)
    · have hbw := hok.sub b _ (Hp.upd_same _ _ _)
      have hsplen : us.flatten.length ≤ sp.length := by
        rw [List.length_append, hfvs, ← hn] at hl1
        rw [hfus, ← hm]
        have : (n + m) * ei.size ≤ c * ei.size := Nat.mul_le_mul_right _ hcap
        rw [Nat.add_mul] at this; omega
      have hput : putL (vs.flatten ++ sp) (n * ei.size) us.flatten = (vs ++ us).flatten ++ sp.drop us.flatten.length := by
        have := putL_append us.flatten vs.flatten sp hsplen
        rw [hfvs, ← hn] at this
        rw [this]; simp
      have hrun := run_append_room (w := w) (ty := ty) (o := 0) hte ht hd he hU hlen hnews hcap hbw (by
        rw [List.length_append, hfvs, ← hn]; omega) hone
      rw [Nat.zero_add, hput] at hrun
      have hnew : New X0 (X0.upd b (.cells ((vs ++ us).flatten ++ sp.drop us.flatten.length).toArray E (0, 0))) E ei.size (some ⟨b, 0, none⟩) c (vs ++ us) := by
        refine ⟨hun, .inr ⟨b, _, rfl, hb0, rfl, ?_, ?_⟩⟩
        · rw [List.length_append, List.length_drop, flat_len hun, hfus]
          rw [List.length_append, hfvs] at hl1
          rw [hfus] at hsplen
          rw [List.length_append, Nat.add_mul]; omega
        · rw [List.length_append, ← hn, ← hm]; exact hcap
      refine ⟨_, c, _, _, hnew, hexec _ _ hrun, ?_⟩
      have hsz := lt_of_heap hbw
      have := hok.swap (b := b) (o := .cells ((vs ++ us).flatten ++ sp.drop us.flatten.length).toArray E (0, 0)) (w' := World.setBlk w b (.cells ((vs ++ us).flatten ++ sp.drop us.flatten.length).toArray E (0, 0)))
        (setBlk_heap hsz) (fun i q hne hi => by simp only [World.setBlk]; rw [Array.getElem?_setIfInBounds_ne (Ne.symm hne)]; exact hi) (hok.dom b (by rw [Hp.upd_same]; simp)) (fun l B hl hm' e => by
          have := (hok.mine_none hl hm').1; rw [e, Hp.upd_same] at this; cases this) rfl rfl rfl (Nat.le_refl _) (by simp [World.setBlk])
      rw [upd_upd] at this
      exact this
theorem dropX_look : ∀ {G : Own} {i : Nat} {B : Blk}, look G i = some B → B.mine = true → look (dropX G) i = some B := by
  intro G
  induction G with
  | nil => intro i B h _; cases h
  | cons p G ih =>
    intro i B h hm
    obtain ⟨u, C⟩ := p
    simp only [look] at h
    cases hb : Nat.beq u i with
    | true =>
      rw [hb] at h
      obtain rfl := Option.some.inj h
      cases C with
      | ext c o T cs => cases hm
      | own T cs => simp only [dropX, look, hb]
      | bor c T cs => simp only [dropX, look, hb]
    | false =>
      rw [hb] at h
      have hne : i ≠ u := fun e => by rw [e] at hb; simp at hb
      cases C with
      | ext c o T cs => simp only [dropX]; rw [look_delO_ne hne]; exact ih h hm
      | own T cs => simp only [dropX, look, hb]; exact ih h hm
      | bor c T cs => simp only [dropX, look, hb]; exact ih h hm
/-- What was left out is there still, if its cells are. -/
theorem Ok.undrop (h : Ok cx σ (dropX H) nl X a w ρ) {X0 : Hp} {w0 : World} (hok : Ok cx σ H nl X0 a w0 ρ) (hx : KX H X0 X) : Ok cx σ H nl X a w ρ := by
  refine ⟨h.size, h.defers, h.val, h.lab, fun l B hl => ?_, hok.inj, h.sub, h.ev, h.dom⟩
  have h1 := (hok.blk l B hl).1
  refine ⟨h1, ?_⟩
  cases B with
  | own T cs => exact (h.blk l _ (dropX_look hl rfl)).2
  | bor c T cs => exact (h.blk l _ (dropX_look hl rfl)).2
  | ext c o T cs =>
    obtain ⟨e, full, fz, h3, h4⟩ := (hok.blk l _ hl).2
    exact ⟨e, full, fz, hx l c o T cs hl full fz h3, h4⟩
/-- append, in a region that draws its order. -/
theorem SD_app (hte : TeOk cx.P te) {T U E : TypeId} {x y : Operand} {dst : Option Tmp} {ty : TypeId} {pos : String} {after : Array Edge} {X0 : Hp} {p : Option Addr} {n c m : Nat} {ti ei : TI} {vs us : List (List Value)}
    (hi : nthL ops.toList i = some { dst := dst, op := .call { callee := .builtin .append, args := #[x, y], argTypes := #[T, U] }, type := ty, pos := pos, after := after, guard := none })
    (hx : ev σ x = some (.v (.slice p n c))) (ht : te T = some ti) (hd : ti.desc = .slice E) (he : te E = some ei) (hU : notInt te U = true) (hz : ei.zero.isSome = true) (hzl : (cellsL (ei.zero.getD undef)).length = ei.size) (hby : ei.bytes ≤ 1024)
    (hN : New X0 X E ei.size p c vs) (hn : n = vs.length) (hus : ∀ u ∈ us, u.length = ei.size) (hm : m = us.length) (hS : Src cx σ H nl X ei.size y m us.flatten) (hone : ∀ v ∈ us.flatten, one v = true) (hsmall : n + m ≤ 2147483648)
    (hxs : Le Xs X0) (hK : ∀ X', Le X0 X' → KX H X X')
    (hk : ∀ p' c' X', New X0 X' E ei.size p' c' (vs ++ us) → ∃ σ', putS cx.n dst (.v (.slice p' (n + m) c')) σ = some σ' ∧ WD cx ops k H0 Xs (i :: L) σ' H nl X') : SD cx ops k H0 Xs L σ H nl X i := by
  intro hd' hri a w ρ ρ0 hρ hok
  rw [nthL_eq, Array.getElem?_toList] at hi
  obtain ⟨p', c', X', w', hN', hr, hok1⟩ := app_step (dst := dst) (ty := ty) (pos := pos) (after := after) hte hx ht hd he hU hz hzl hby hN hn hus hm hS hone hsmall hok
  obtain ⟨σ', hp, hW⟩ := hk p' c' X' hN'
  have hok2 := hok1.undrop hok (hK X' hN'.le)
  have hd2 := hd'.next hri (X' := X') hd'.own (fun b o hb => hN'.le _ _ (hxs b o hb))
  unfold wpOp
  rw [hi]
  simp only [Region.wanted, if_true]
  refine .inl ?_
  unfold Oper.wp
  rw [hr]
  exact ⟨hok2.ss hd2 hρ, hW hd2 _ _ ρ ρ0 hρ (hok2.put hp trivial)⟩
/-- A store into a block of the partial heap, in such a region. -/
theorem SD_stX (hte : TeOk cx.P te) {T E : TypeId} {x y : Operand} {ty : TypeId} {pos : String} {after : Array Edge} {b off : Nat} {cs : List Value} {u : SV} {ti : TI} (ht : te T = some ti) (hsz : (cellsL v).length = ti.size)
    (hi : nthL ops.toList i = some { dst := none, op := .store T x y, type := ty, pos := pos, after := after, guard := none })
    (hx : ev σ x = some (.v (.pointer (some ⟨b, off, none⟩)))) (hy : ev σ y = some u) (hu : real H u = some v) (hX : X b = some (.cells cs.toArray E (0, 0))) (hl : off + (cellsL v).length ≤ cs.length) (hone : allOne (cellsL v) = true)
    (hxs : Xs b = none) (hK : KX H X (X.upd b (.cells (putL cs off (cellsL v)).toArray E (0, 0))))
    (hk : WD cx ops k H0 Xs (i :: L) σ H nl (X.upd b (.cells (putL cs off (cellsL v)).toArray E (0, 0)))) : SD cx ops k H0 Xs L σ H nl X i := by
  intro hd' hri a w ρ ρ0 hρ hok
  rw [nthL_eq, Array.getElem?_toList] at hi
  have ex := hok.eval hx trivial
  have ey := hok.eval hy (real_cond hu)
  rw [hok.v.real hu] at ey
  simp only [SV.den] at ex
  have hst := run_storeCells_blk (P := cx.P) (b := b) (o := off) (T := E) (cellsL v) 0 w cs (hok.sub _ _ hX) (by simpa using hl) (allOne_spec hone)
  simp only [Nat.add_zero] at hst
  have hexec : (execOp a.eval { dst := none, op := .store T x y, type := ty, pos := pos, after := after, guard := none }).run cx.P w = .ok .skip (World.setBlk w b (.cells (putL cs off (cellsL v)).toArray E (0, 0))) := by
    have hs := run_size w (hte _ _ ht)
    have hsz' : v.cells.size = ti.size := by rw [← hsz, ← cellsL_eq]; simp
    simp only [execOp, ex, ey, Instr.storeAt, Instr.sureAddr, storeVar, Sem.run_bind, Sem.run_pure, Result.andThen_ok, hs]
    simp only [hsz', ne_eq, not_true_eq_false, if_false, Result.andThen_ok, cellsL_eq, hst]
  have hok2 := (hok.setX (cs' := putL cs off (cellsL v)) hX).undrop hok hK
  have hd2 := hd'.next hri (X' := X.upd b (.cells (putL cs off (cellsL v)).toArray E (0, 0))) hd'.own (fun b' o hb => by
    rw [Hp.upd_ne _ _ (fun e => by rw [e, hxs] at hb; cases hb)]; exact hd'.sub b' o hb)
  unfold wpOp
  rw [hi]
  simp only [Region.wanted, if_true]
  refine .inl ?_
  unfold Oper.wp
  rw [hexec]
  exact ⟨hok2.ss hd2 hρ, hk hd2 _ _ ρ ρ0 hρ (hok2.put (v := .v undef) (dst := none) rfl trivial)⟩
/-- A value that is read at once. -/
theorem SD_v {op : Op} {dst : Option Tmp} {ty : TypeId} {pos : String} {after : Array Edge} (hi : nthL ops.toList i = some { dst := dst, op := op, type := ty, pos := pos, after := after, guard := none })
    (h : VOp cx.P σ X op v) (hp : putS cx.n dst (.v v) σ = some σ') (hk : WD cx ops k H0 Xs (i :: L) σ' H nl X) : SD cx ops k H0 Xs L σ H nl X i := by
  intro hd' hri a w ρ ρ0 hρ hok
  rw [nthL_eq, Array.getElem?_toList] at hi
  have hr := h a w { dst := dst, op := op, type := ty, pos := pos, after := after, guard := none } rfl hok.evl hok.sub
  have hd2 := hd'.next hri (X' := X) hd'.own hd'.sub
  unfold wpOp
  rw [hi]
  simp only [Region.wanted, if_true]
  refine .inl ?_
  unfold Oper.wp
  rw [hr]
  exact ⟨hok.ss hd2 hρ, hk hd2 _ _ ρ ρ0 hρ (hok.put hp trivial)⟩
/-- An operation that yields in whatever world holds what stays, guarded or not. -/
theorem WD_takeY {o : Oper} (hi : nthL ops.toList i = some o) (hr : memL (rdyL L 0 ops.toList) i = true) (hv : ∀ a w ρ ρ0, (∀ l B, look H0 l = some B → ρ l = ρ0 l) → Ok cx σ H nl X a w ρ → (∀ l B, look H0 l = some B → look H l = some B) → YieldsIf cx.P ops (SS H0 Xs ρ0) o (s.den ρ) a)
    (hb : ∀ a w ρ, Ok cx σ H nl X a w ρ → s.below nl) (hp : putS cx.n o.dst s σ = some σ') (h : WD cx ops k H0 Xs (i :: L) σ' H nl X) : WD cx ops k H0 Xs L σ H nl X := by
  intro hd a w ρ ρ0 hρ hok
  have hri := memL_spec.1 hr
  have hlt := len_lt hd hri
  have he : ops.size - L.length = (ops.size - (i :: L).length) + 1 := by simp; omega
  rw [he]
  obtain ⟨h1, h2, o', h3, h4⟩ := rdy_lt hri
  rw [nthL_eq, Array.getElem?_toList] at hi
  have hQ : ∀ c (a : Act) w, post cx.B (kont cx.P cx.B k) (.panic c) (a.put o.dst (s.den ρ)) w → post cx.B (kont cx.P cx.B k) (.panic c) a w := fun c a w hq => by
    have hq' : (a.put o.dst (s.den ρ)).defers = [] ∧ ∃ X', Sub X' w ∧ Ev cx.X0 cx.w0 w ∧ Dom cx.X0 X' cx.w0 ∧ cx.Q (.panicked c) X' := hq
    rw [Act.put_defers] at hq'
    exact hq'
  refine wpAnyH_first (v := s.den ρ) hi (Region.noSelect_spec hd.sel) hQ _ _ a w ?_ (hd.ready.2 hri) (hv a w ρ ρ0 hρ hok hd.own) (hok.ss hd hρ) ?_
  · intro j oj hj hji hun hno
    rcases pairOk_spec hd.pair hi hj (Ne.symm hji) with h5 | h5 | h5
    · obtain ⟨e, he1, he2, he3⟩ := hasEdge_spec h5
      exact absurd he3 (hno e he1 (by rw [bindB_eq]; exact he2))
    · obtain ⟨e, he1, he2, he3⟩ := hasEdge_spec h5
      rw [hi] at h3
      obtain rfl := Option.some.inj h3
      have h6 := edgesOk_spec.1 h4 e (by simpa using he1) he2
      have hjl : j < ops.size := hd.lt j (he3 ▸ h6)
      rw [Array.getD_eq_getD_getElem?, listedA_get hjl] at hun
      simp at hun
      exact absurd (he3 ▸ h6) hun
    · exact h5
  · exact h (hd.next hri hd.own hd.sub) _ w ρ ρ0 hρ (hok.put hp (hb a w ρ hok))
/-- A guarded operation that is passed by. -/
theorem WD_gn {o : Oper} {j t : Nat} {want b : Bool} (hi : nthL ops.toList i = some o) (hr : memL (rdyL L 0 ops.toList) i = true) (hg : o.guard = some (j, want)) (hj : gslot ops j = some t) (ht : look σ t = some (.v (.bool b))) (hb : b = !want)
    (hp : putS cx.n o.dst (.v undef) σ = some σ') (h : WD cx ops k H0 Xs (i :: L) σ' H nl X) : WD cx ops k H0 Xs L σ H nl X :=
  WD_takeY (s := .v undef) hi hr (fun a w ρ ρ0 _ hok _ => .inr ⟨by simp [Region.wanted, hg, slot_bool hok hj ht, hb], rfl⟩) (fun _ _ _ _ => trivial) hp h
/-- A guarded operation that is carried out: what it yields is told by the frame and the blocks that stay. -/
theorem WD_gx (hte : TeOk cx.P te) {o : Oper} {j t : Nat} {want b : Bool} (hi : nthL ops.toList i = some o) (hr : memL (rdyL L 0 ops.toList) i = true) (hg : o.guard = some (j, want)) (hj : gslot ops j = some t) (ht : look σ t = some (.v (.bool b))) (hb : b = want)
    (hv : exv te σ H0 o.op = some s) (hp : putS cx.n o.dst s σ = some σ') (h : WD cx ops k H0 Xs (i :: L) σ' H nl X) : WD cx ops k H0 Xs L σ H nl X := by
  intro hd
  refine WD_takeY (s := s) hi hr (fun a w ρ ρ0 hρ hok hown => .inl ⟨by simp [Region.wanted, hg, slot_bool hok hj ht, hb], fun w2 hss => ?_⟩) (fun a w ρ hok => ?_) hp h hd
  · have hV : OkV σ H0 a w2 ρ := ⟨hok.val, fun l B hl => by rw [hρ l B hl]; exact hss.heap l B hl, fun l b o T cs hl => ((hok.blk l _ (hown l _ hl)).2).1⟩
    exact (exv_sound hte hV hv).1 o rfl
  · have hV : Ok cx σ H0 nl X a w ρ := hok.weaken (fun _ _ e => e) hd.own
    exact exv_below hV hv
/-- The same for a value of the partial heap that stays. -/
theorem WD_gv {op : Op} {dst : Option Tmp} {ty : TypeId} {pos : String} {after : Array Edge} {j t : Nat} {want b : Bool} (hi : nthL ops.toList i = some { dst := dst, op := op, type := ty, pos := pos, after := after, guard := some (j, want) }) (hr : memL (rdyL L 0 ops.toList) i = true)
    (hj : gslot ops j = some t) (ht : look σ t = some (.v (.bool b))) (hb : b = want) (h : VOp cx.P σ Xs op v) (hp : putS cx.n dst (.v v) σ = some σ') (hk : WD cx ops k H0 Xs (i :: L) σ' H nl X) : WD cx ops k H0 Xs L σ H nl X :=
  WD_takeY (s := .v v) hi hr (fun a w ρ ρ0 _ hok _ => .inl ⟨by simp [Region.wanted, slot_bool hok hj ht, hb], fun w2 hss => h a w2 _ rfl hok.evl hss.sub⟩) (fun _ _ _ _ => trivial) hp hk
/-- The address of a slice's element. -/
theorem V_at (hte : TeOk cx.P te) {T E : TypeId} {x y : Operand} {b off n c m : Nat} {kk : IntKind} {i : Int} {ti ei : TI} (hx : ev σ x = some (.v (.slice (some ⟨b, off, none⟩) n c))) (hy : ev σ y = some (.v (.int kk i)))
    (ht : te T = some ti) (hd : ti.desc = .slice E) (he : te E = some ei) (hi : i = m) (hn : m < n) : VOp cx.P σ X (.indexAddr T x y) (.pointer (some ⟨b, off + m * ei.size, none⟩)) := by
  intro a w o ho hev hsub
  have ex := hev _ _ hx
  have ey := hev _ _ hy
  have hu := run_und w (hte _ _ ht)
  rw [hd] at hu
  have hs := run_size w (hte _ _ he)
  subst hi
  have hc : (0 : Int) ≤ (m : Int) ∧ (m : Int) < (n : Int) := by omega
  simp [execOp, ho, ex, ey, Instr.indexAt, asIntOf, hu, hs, hn, addr_add]
end
end Go.Fw
/- The walks of a view's keys, changes, and commit in memory. -/
namespace Go.Fw
open Go.Proofs
structure KS where
  todo : KV
  ks : List Bs
  p : Option Addr
  c : Nat
  X : Hp
theorem view_keys (X : Hp) (rc : Nat) (kc : KV) (hrc : MapX X rc kc) (hn : kc.length ≤ 1000000000) :
    Trip Tryz.prog 74 #[.map (some rc)] X (Rt fun r X' => ∃ p c l, r = .slice p l.length c ∧ Nw X X' 9 1 p c (strs l) ∧ (∀ k ∈ l, (getK ⟨k.toArray⟩ kc).isSome = true) ∧ l.length ≤ kc.length) := by
  refine enter (args := [.map (some rc)]) Tryz.func74 rfl (by decide) rfl fun w0 => ?_
  refine sx hte rfl ?_
  refine W_range hte mtC rfl hrc fun ib o hib hit => ⟨_, rfl, ?_⟩
  refine sx hte rfl ?_
  refine W_for (ι := KS) (fun i => IterX i.X ib rc i.todo none ∧ Nw X i.X 9 1 i.p i.c (strs i.ks) ∧ (∀ k ∈ i.ks, (getK ⟨k.toArray⟩ kc).isSome = true) ∧ (∀ e ∈ i.todo, e ∈ kc) ∧ i.ks.length + i.todo.length ≤ kc.length) (fun i => i.todo.length) [3]
    (fun i => [(3, .v (.slice i.p i.ks.length i.c))]) [] (fun _ => []) KS.X ⟨kc, [], none, 0, _⟩ ⟨hit, ⟨_, Le.upd _ hib, New.nil _ _ _⟩, (fun _ h => by cases h), fun _ h => h, by simp⟩
    ⟨rfl, trivial⟩ trivial rfl rfl rfl fun i hi => ?_
  obtain ⟨todo, ks, p, c, Xi⟩ := i
  obtain ⟨hI, hN, hK, hS, hlen⟩ := hi
  simp only at hI hN hK hS hlen ⊢
  refine sx hte rfl ?_
  refine W_next rfl hI (fun h0 => ⟨_, rfl, ?_⟩) (fun t1 e t2 o2 ht hI2 => ⟨_, rfl, ?_⟩)
  · refine sx hte rfl ?_
    refine W_false rfl (sx hte rfl ?_)
    obtain ⟨Y, hY, hNY⟩ := hN
    refine W_call rfl rfl (sort_str Xi Y p c ks hNY (by omega)) ?_
    rintro r X' ⟨rfl, l', hN', hl', hp'⟩
    refine ⟨fun _ _ _ _ _ hl => (by cases hl), _, rfl, ?_⟩
    refine sx hte rfl ?_
    rw [← hl']
    exact W_ret hte rfl ⟨p, c, l', rfl, ⟨Y, hY, hN'⟩, fun k hk => hK k (hp'.mem_iff.1 hk), by omega⟩
  · obtain ⟨q0, hq0, hq1⟩ := hI.obj
    have hN2 : Nw X (Xi.upd ib o2) 9 1 p c (strs ks) := hN.iter hib hq0 hq1
    generalize Xi.upd ib o2 = Xj at hI2 hN2 ⊢
    have hem : e ∈ kc := hS e (by rw [ht]; simp)
    have hS' : ∀ z ∈ t1 ++ t2, z ∈ kc := fun z hz => hS z (by
      rw [ht]
      rcases List.mem_append.1 hz with h | h
      · exact List.mem_append.2 (.inl h)
      · exact List.mem_append.2 (.inr (List.mem_cons_of_mem _ h)))
    have hμ : (t1 ++ t2).length < todo.length := by rw [ht]; simp
    have htl : todo.length = (t1 ++ t2).length + 1 := by rw [ht]; simp; omega
    obtain ⟨ek, ev⟩ := e
    refine sx hte rfl ?_
    refine W_true rfl (sx hte rfl ?_)
    refine W_entry rfl hI2 rfl ?_
    refine sx hte rfl ?_
    obtain ⟨Y, hY, hNY⟩ := hN2
    refine W_app (us := [[.string ⟨ek.data.toList.toArray⟩]]) hte rfl rfl rfl rfl rfl rfl rfl (by decide) hNY (strs_length _).symm (by simp; rfl) rfl (Src.lab rfl rfl (by rw [ba_mk]; rfl)) (by simp [one]) (by simp only [List.length_cons, List.length_nil]; omega) fun p' c3 X' (hN' : New _ _ _ 1 _ _ _) => ⟨_, rfl, ?_⟩
    refine sx hte rfl ?_
    have hI3 : IterX X' ib rc (t1 ++ t2) none := hI2.drop.le fun i z hz hnc => hN'.le _ _ (hNY.nc hz hnc)
    refine W_again ⟨t1 ++ t2, ks ++ [ek.data.toList], p', c3, X'⟩ ⟨hI3, ⟨Y, hY, by simpa [strs] using hN'⟩, fun k hk => ?_, hS', ?_⟩ hμ ⟨by simp; rfl, trivial⟩ (by repeat first | exact trivial | refine ⟨rfl, ?_⟩) trivial (by repeat first | exact trivial | refine ⟨rfl, ?_⟩) rfl rfl rfl
    · rcases List.mem_append.1 hk with h | h
      · exact hK k h
      · obtain rfl := List.mem_singleton.1 h
        rw [ba_mk]
        exact getK_isSome.2 (List.mem_map_of_mem hem)
    · simp only [List.length_append, List.length_cons, List.length_nil] at hlen htl ⊢; omega
end Go.Fw
/- The walk of a view's Changes in memory: it ends, and adds to the heap alone. -/
namespace Go.Fw
open Go.Proofs
theorem Nw.mono {X Xi X' : Hp} {E : TypeId} {k : Nat} {p : Option Addr} {c : Nat} {vs : List (List Value)} (h : Nw X Xi E k p c vs) (hl : Le Xi X') : Nw X X' E k p c vs := by
  obtain ⟨Y, h1, h2⟩ := h.re hl
  exact ⟨Y, h1, h2⟩
theorem Nw.keep {X Xi X' : Hp} {E : TypeId} {k : Nat} {p : Option Addr} {c : Nat} {vs : List (List Value)} (h : Nw X Xi E k p c vs) (hl : Le X X') (hk : ∀ b cs fz, X b = none → Xi b = some (.cells cs E fz) → X' b = some (.cells cs E fz)) : Nw X X' E k p c vs := by
  obtain ⟨Xm, hXm, hu, hN⟩ := h
  rcases hN with ⟨rfl, rfl, rfl, rfl⟩ | ⟨b, sp, rfl, hb, rfl, hlen, hcap⟩
  · exact ⟨X', hl, New.nil _ _ _⟩
  · have hXb : X b = none := by
      cases e : X b with
      | none => rfl
      | some o => rw [hXm _ _ e] at hb; cases hb
    have hX' := hk b _ _ hXb (Hp.upd_same _ _ _)
    refine ⟨X'.del b, fun i o hi => ?_, hu, .inr ⟨b, sp, rfl, by simp [Hp.del], ?_, hlen, hcap⟩⟩
    · have hib : i ≠ b := fun e => by rw [e, hXb] at hi; cases hi
      simp only [Hp.del, if_neg hib]; exact hl i o hi
    · funext i
      by_cases e : i = b
      · subst e; rw [Hp.upd_same, hX']
      · rw [Hp.upd_ne _ _ e]; simp only [Hp.del, if_neg e]
section
variable {cx : Cx} {k k' : List It} {σ σ' : Fm} {H H' : Own} {nl nl' : Nat} {X : Hp} {ops : Array Oper} {rest : List Oper}
/-- The executor, so many steps. -/
theorem sxN (n : Nat) {te : Te} (hte : TeOk cx.P te) {ob : Prop} (h : go te cx.n n k σ H nl True = ⟨k', σ', H', nl', ob⟩) (hk : W cx k' σ' H' nl' X) (hob : ob := by trivial) : W cx k σ H nl X :=
  (go_sound hte _ _ _ _ _ _ _ h hob hk).1
/-- An operation whose guard was passed by is passed by. -/
theorem W_guard_u {op : Op} {dst : Option Tmp} {ty : TypeId} {pos : String} {after : Array Edge} {j t : Nat} {want : Bool} (hj : gslot ops j = some t) (ht : look σ t = some (.v undef))
    (hp : putS cx.n dst (.v undef) σ = some σ') (hn : W cx (.rg ops rest :: k) σ' H nl X) :
    W cx (.rg ops ({ dst := dst, op := op, type := ty, pos := pos, after := after, guard := some (j, want) } :: rest) :: k) σ H nl X := by
  intro a w ρ hok
  have hyd : yielded ops a.tmps j = none := by
    unfold gslot at hj
    split at hj
    · rename_i p hp
      rw [nthL_eq] at hp
      have h1 : ops[j]? = some p := by simpa using hp
      have h2 := hok.val t _ ht trivial
      simp [yielded, h1, hj, h2, SV.den, undef]
    · cases hj
  refine run_op_skip (by simp [Region.wanted, hyd]) ?_
  exact hn _ _ _ (hok.put hp trivial)
end
structure CS where
  k : Nat
  pr : List (List Value)
  pp : Option Addr
  pc : Nat
  dr : List (List Value)
  dp : Option Addr
  dc : Nat
  X : Hp
theorem view_Changes (X : Hp) (b : Nat) (s : VS) (h : VM X (.pointer (some ⟨b, 0, none⟩)) s) (hn : s.chg ≤ 1000000) :
    Trip Tryz.prog 34 #[.pointer (some ⟨b, 0, none⟩)] X (Rt fun r X' => Le X X' ∧ ∃ p n c q m d, r = .tuple #[.slice p n c, .slice q m d]) := by
  have h' := h
  obtain ⟨b', rc, rm, kc, km, hpb, hb, hrc, hrm, hne, hm, hcg, hn1, hn2, hok⟩ := h
  have hbb : b = b' := by injection hpb with h; injection h with h; injection h
  subst hbb
  refine enter (args := [.pointer (some ⟨b, 0, none⟩)]) Tryz.func34 rfl (by decide) rfl fun w0 => ?_
  have hfull : ∀ j, j < [Value.map (some rc), .pointer none, .map (some rm), .int .i64 0].length → (#[Value.map (some rc), .pointer none, .map (some rm), .int .i64 0] : Array Value)[j]? = [Value.map (some rc), .pointer none, .map (some rm), .int .i64 0][j]? := fun j _ => by simp
  refine sx hte rfl ?_
  refine W_callP rfl rfl (view_ready X _ s h') rfl ?_
  refine sx hte rfl ?_
  refine W_false rfl (sx hte rfl ?_)
  refine W_v (V_load hte rfl hb hfull rfl) rfl ?_
  refine sx hte rfl ?_
  refine W_call rfl rfl (view_keys X rc kc hrc (by omega)) ?_
  rintro r X1 ⟨kp, kcap, ks, rfl, hNk, hks, hkn⟩
  refine ⟨hNk.le.ck.kx, _, rfl, sx hte rfl ?_⟩
  refine W_for (ι := CS) (fun i => i.k ≤ ks.length ∧ Nw X1 i.X 124 2 i.pp i.pc i.pr ∧ Nw X1 i.X 107 1 i.dp i.dc i.dr ∧ i.pr.length ≤ i.k ∧ i.dr.length ≤ i.k) (fun i => ks.length - i.k) [4, 5, 20, 7, 9, 10, 37, 48]
    (fun i => [(4, .v (.slice i.pp i.pr.length i.pc)), (5, .v (.slice i.dp i.dr.length i.dc)), (20, .v (.int .i64 i.k))]) [] (fun _ => []) CS.X ⟨0, [], none, 0, [], none, 0, X1⟩ ⟨by simp, Nw.nil _ _ _, Nw.nil _ _ _, by simp, by simp⟩
    ⟨rfl, rfl, rfl, trivial⟩ trivial rfl rfl rfl fun i hi => ?_
  obtain ⟨k, pr, pp, pc, dr, dp, dc, Xi⟩ := i
  obtain ⟨hk, hNp, hNd, hpl, hdl⟩ := hi
  simp only at hk hNp hNd hpl hdl ⊢
  refine sx hte rfl ?_
  refine W_if rfl (fun hq => sx hte rfl ?_) (fun hq => sx hte rfl ?_)
  · simp only [decide_eq_true_eq] at hq
    have hk' : k < ks.length := by omega
    have hrow : (strs ks)[k]? = some [.string ⟨ks[k].toArray⟩] := by simp [strs, hk']
    have hkc := hks ks[k] (List.getElem_mem hk')
    refine W_idx (m := k) hte rfl rfl rfl rfl rfl (hNk.arr.ck hNp.le.ck) rfl (by omega) hrow rfl fun bb o => ?_
    refine sx hte rfl ?_
    generalize ks[k] = key at hkc ⊢
    have hLi := hNk.le.trans hNp.le
    obtain ⟨u, hu⟩ := Option.isSome_iff_exists.1 hkc
    have hcgk := hcg key
    rw [hu] at hcgk
    obtain ⟨w, g, rfl, hg⟩ := hcgk
    refine W_v (V_load hte rfl (hLi _ _ hb) hfull rfl) rfl ?_
    refine sx hte rfl ?_
    refine W_v (V_lookup1 (s := ⟨key.toArray⟩) hte mtC rfl rfl (hrc.le hLi)) rfl ?_
    rw [hu]
    have hsc : ∀ X2 p1 c1, Le Xi X2 → Arr X2 5 1 p1 (bcells (ByteArray.mk key.toArray).data.toList) → (ByteArray.mk key.toArray).data.toList.length ≤ c1 → Trip Tryz.prog 75 #[.pointer (some ⟨b, 0, none⟩), .slice p1 (ByteArray.mk key.toArray).data.toList.length c1] X2 (Rt fun r X' => X' = X2 ∧ ∃ w, r = .tuple #[w, .bool (getT key s.was).isSome] ∧ Bytes X2 w ((getT key s.was).getD [])) := fun X2 p1 c1 hL2 hA2 hc2 => view_was X2 _ _ s key (h'.le (hLi.trans hL2)) ⟨p1, c1, by simp, by simpa using hA2, by simpa using hc2⟩
    cases g with
    | true =>
      simp only [if_true] at hg
      obtain ⟨_, rfl⟩ := hg
      refine sx hte rfl ?_
      refine W_s2b hte rfl rfl rfl rfl rfl rfl rfl fun p1 c1 X2 hL2 hA2 hc2 => ⟨_, rfl, ?_⟩
      refine sx hte rfl ?_
      refine W_call rfl rfl (hsc X2 p1 c1 hL2 hA2 hc2) ?_
      rintro r X3 ⟨rfl, w3, rfl, hw3⟩
      refine ⟨(CK.refl _).kx, _, rfl, sx hte rfl ?_⟩
      refine W_if rfl (fun h1 => sx hte rfl ?_) (fun h1 => ?_)
      · refine W_s2b hte rfl rfl rfl rfl rfl rfl rfl fun p3 c3 X4 hL4 hA4 hc4 => ⟨_, rfl, ?_⟩
        refine sx hte rfl ?_
        have hLi4 := hL2.trans hL4
        obtain ⟨Y, hY, hNY⟩ := hNd.re hLi4
        refine W_app (us := [[.slice p3 (ByteArray.mk key.toArray).data.toList.length c3]]) hte rfl rfl rfl rfl rfl rfl rfl (by decide) hNY rfl (by simp; rfl) rfl (Src.lab rfl rfl rfl) (by simp [one]) (by simp only [List.length_cons, List.length_nil]; omega) fun p' c' X' (hN' : New _ _ _ 1 _ _ _) => ⟨_, rfl, ?_⟩
        refine sx hte rfl ?_
        have hNp2 : Nw X1 X' 124 2 pp pc pr := (hNp.mono hLi4).keep (hY.trans hN'.le) fun b cs fz _ hb => hN'.le _ _ (hNY.ty hb (by decide))
        refine W_again ⟨k + 1, pr, pp, pc, dr ++ [[.slice p3 (ByteArray.mk key.toArray).data.toList.length c3]], p', c', X'⟩ ⟨by dsimp only; omega, hNp2, ⟨Y, hY, hN'⟩, by first | (dsimp only; omega) | (simp only [List.length_append, List.length_cons, List.length_nil]; omega), by first | (dsimp only; omega) | (simp only [List.length_append, List.length_cons, List.length_nil]; omega)⟩ (by dsimp only; omega) ⟨by first | rfl | (show some (SV.v (.slice _ _ _)) = _; simp), by first | rfl | (show some (SV.v (.slice _ _ _)) = _; simp), ?_, trivial⟩ (by repeat first | exact trivial | refine ⟨rfl, ?_⟩) trivial (by repeat first | exact trivial | refine ⟨rfl, ?_⟩) rfl rfl rfl
        show some (SV.v (.int .i64 _)) = _
        rw [i64_wrap (by omega) (by omega)]; simp
      · refine sxN 6 hte rfl ?_
        refine W_guard_n rfl rfl rfl rfl ?_
        refine W_guard_n rfl rfl rfl rfl ?_
        refine W_guard_n rfl rfl rfl rfl ?_
        refine W_guard_u rfl rfl rfl ?_
        refine W_guard_u rfl rfl rfl ?_
        refine W_guard_u rfl rfl rfl ?_
        refine W_guard_u rfl rfl rfl ?_
        refine W_guard_u rfl rfl rfl ?_
        refine W_guard_n rfl rfl rfl rfl ?_
        refine W_pick (s := .v (.bool false)) rfl rfl rfl ?_
        refine sx hte rfl ?_
        refine W_false rfl (sx hte rfl ?_)
        refine W_again ⟨k + 1, pr, pp, pc, dr, dp, dc, X3⟩ ⟨by dsimp only; omega, hNp.mono hL2, hNd.mono hL2, by dsimp only; omega, by dsimp only; omega⟩ (by dsimp only; omega) ⟨by first | rfl | (show some (SV.v (.slice _ _ _)) = _; simp), by first | rfl | (show some (SV.v (.slice _ _ _)) = _; simp), ?_, trivial⟩ (by repeat first | exact trivial | refine ⟨rfl, ?_⟩) trivial (by repeat first | exact trivial | refine ⟨rfl, ?_⟩) rfl rfl rfl
        show some (SV.v (.int .i64 _)) = _
        rw [i64_wrap (by omega) (by omega)]; simp
    | false =>
      simp only [Bool.false_eq_true, if_false] at hg
      obtain ⟨d, hd, wa, wc, rfl, hwA, hwc⟩ := hg
      have hdl2 : d.length ≤ 120 := (hok.get hd).2
      refine sx hte rfl ?_
      refine W_s2b hte rfl rfl rfl rfl rfl rfl rfl fun p1 c1 X2 hL2 hA2 hc2 => ⟨_, rfl, ?_⟩
      refine sx hte rfl ?_
      refine W_call rfl rfl (hsc X2 p1 c1 hL2 hA2 hc2) ?_
      rintro r X3 ⟨rfl, w3, rfl, hw3⟩
      refine ⟨(CK.refl _).kx, _, rfl, sx hte rfl ?_⟩
      have hL3 := hLi.trans hL2
      refine W_false rfl ?_
      refine sxN 6 hte rfl ?_
      refine W_guard_y rfl rfl rfl (sxN 1 hte rfl ?_)
      refine W_guard_y rfl rfl rfl (sxN 1 hte rfl ?_)
      refine W_guard_y rfl rfl rfl (sxN 1 hte rfl ?_)
      refine W_guard rfl rfl (fun hb => ?_) (fun hb => ⟨_, rfl, ?_⟩)
      · refine sxN 1 hte rfl ?_
        refine W_guard_y rfl rfl hb (sxN 1 hte rfl ?_)
        refine W_guard_y rfl rfl hb (sxN 1 hte rfl ?_)
        refine W_guard_y rfl rfl hb ?_
        refine W_callP rfl rfl (bytes_Equal X3 w3 (.slice wa d.length wc) _ d hw3 ⟨wa, wc, rfl, hwA.ck hL3.ck, hwc⟩) rfl ?_
        refine W_guard_y rfl rfl hb (sxN 1 hte rfl ?_)
        refine W_guard_y rfl rfl rfl ?_
        refine W_pick (s := .v (.bool (!(((getT key s.was).getD []) == d)))) rfl (by rw [hb]; rfl) rfl ?_
        refine W_pick (s := .v (.bool (!(((getT key s.was).getD []) == d)))) rfl rfl rfl ?_
        refine sx hte rfl ?_
        refine W_if rfl (fun h1 => sx hte rfl ?_) (fun h1 => sx hte rfl ?_)
        · refine W_s2b hte rfl rfl rfl rfl rfl rfl rfl fun p3 c3 X4 hL4 hA4 hc4 => ⟨_, rfl, ?_⟩
          refine sx hte rfl ?_
          refine W_call rfl rfl (bytes_Clone X4 _ d ⟨wa, wc, rfl, hwA.ck (hL3.trans hL4).ck, hwc⟩ (by omega)) ?_
          rintro r X5 ⟨hL5, va, vc, rfl, hvA, hvc⟩
          refine ⟨hL5.ck.kx, _, rfl, sx hte rfl ?_⟩
          have hLi5 := hL2.trans (hL4.trans hL5)
          obtain ⟨Y, hY, hNY⟩ := hNp.re hLi5
          refine W_app (us := [[.slice p3 (ByteArray.mk key.toArray).data.toList.length c3, .slice va d.length vc]]) hte rfl rfl rfl rfl rfl rfl rfl (by decide) hNY rfl (by simp; rfl) rfl (Src.lab rfl rfl rfl) (by simp [one]) (by simp only [List.length_cons, List.length_nil]; omega) fun p' c' X' (hN' : New _ _ _ 2 _ _ _) => ⟨_, rfl, ?_⟩
          refine sx hte rfl ?_
          have hNd2 : Nw X1 X' 107 1 dp dc dr := (hNd.mono hLi5).keep (hY.trans hN'.le) fun b cs fz _ hb => hN'.le _ _ (hNY.ty hb (by decide))
          refine W_again ⟨k + 1, pr ++ [[.slice p3 (ByteArray.mk key.toArray).data.toList.length c3, .slice va d.length vc]], p', c', dr, dp, dc, X'⟩ ⟨by dsimp only; omega, ⟨Y, hY, hN'⟩, hNd2, by first | (dsimp only; omega) | (simp only [List.length_append, List.length_cons, List.length_nil]; omega), by first | (dsimp only; omega) | (simp only [List.length_append, List.length_cons, List.length_nil]; omega)⟩ (by dsimp only; omega) ⟨by first | rfl | (show some (SV.v (.slice _ _ _)) = _; simp), by first | rfl | (show some (SV.v (.slice _ _ _)) = _; simp), ?_, trivial⟩ (by repeat first | exact trivial | refine ⟨rfl, ?_⟩) trivial (by repeat first | exact trivial | refine ⟨rfl, ?_⟩) rfl rfl rfl
          show some (SV.v (.int .i64 _)) = _
          rw [i64_wrap (by omega) (by omega)]; simp
        · refine W_again ⟨k + 1, pr, pp, pc, dr, dp, dc, X3⟩ ⟨by dsimp only; omega, hNp.mono hL2, hNd.mono hL2, by dsimp only; omega, by dsimp only; omega⟩ (by dsimp only; omega) ⟨by first | rfl | (show some (SV.v (.slice _ _ _)) = _; simp), by first | rfl | (show some (SV.v (.slice _ _ _)) = _; simp), ?_, trivial⟩ (by repeat first | exact trivial | refine ⟨rfl, ?_⟩) trivial (by repeat first | exact trivial | refine ⟨rfl, ?_⟩) rfl rfl rfl
          show some (SV.v (.int .i64 _)) = _
          rw [i64_wrap (by omega) (by omega)]; simp
      · refine W_guard_n rfl rfl hb rfl ?_
        refine W_guard_n rfl rfl hb rfl ?_
        refine W_guard_n rfl rfl hb rfl ?_
        refine W_guard_n rfl rfl hb rfl ?_
        refine W_guard_y rfl rfl rfl ?_
        refine W_pick (s := .v (.bool true)) rfl (by rw [hb]; rfl) rfl ?_
        refine W_pick (s := .v (.bool true)) rfl rfl rfl ?_
        refine sx hte rfl ?_
        refine W_true rfl (sx hte rfl ?_)
        refine W_s2b hte rfl rfl rfl rfl rfl rfl rfl fun p3 c3 X4 hL4 hA4 hc4 => ⟨_, rfl, ?_⟩
        refine sx hte rfl ?_
        refine W_call rfl rfl (bytes_Clone X4 _ d ⟨wa, wc, rfl, hwA.ck (hL3.trans hL4).ck, hwc⟩ (by omega)) ?_
        rintro r X5 ⟨hL5, va, vc, rfl, hvA, hvc⟩
        refine ⟨hL5.ck.kx, _, rfl, sx hte rfl ?_⟩
        have hLi5 := hL2.trans (hL4.trans hL5)
        obtain ⟨Y, hY, hNY⟩ := hNp.re hLi5
        refine W_app (us := [[.slice p3 (ByteArray.mk key.toArray).data.toList.length c3, .slice va d.length vc]]) hte rfl rfl rfl rfl rfl rfl rfl (by decide) hNY rfl (by simp; rfl) rfl (Src.lab rfl rfl rfl) (by simp [one]) (by simp only [List.length_cons, List.length_nil]; omega) fun p' c' X' (hN' : New _ _ _ 2 _ _ _) => ⟨_, rfl, ?_⟩
        refine sx hte rfl ?_
        have hNd2 : Nw X1 X' 107 1 dp dc dr := (hNd.mono hLi5).keep (hY.trans hN'.le) fun b cs fz _ hb => hN'.le _ _ (hNY.ty hb (by decide))
        refine W_again ⟨k + 1, pr ++ [[.slice p3 (ByteArray.mk key.toArray).data.toList.length c3, .slice va d.length vc]], p', c', dr, dp, dc, X'⟩ ⟨by dsimp only; omega, ⟨Y, hY, hN'⟩, hNd2, by first | (dsimp only; omega) | (simp only [List.length_append, List.length_cons, List.length_nil]; omega), by first | (dsimp only; omega) | (simp only [List.length_append, List.length_cons, List.length_nil]; omega)⟩ (by dsimp only; omega) ⟨by first | rfl | (show some (SV.v (.slice _ _ _)) = _; simp), by first | rfl | (show some (SV.v (.slice _ _ _)) = _; simp), ?_, trivial⟩ (by repeat first | exact trivial | refine ⟨rfl, ?_⟩) trivial (by repeat first | exact trivial | refine ⟨rfl, ?_⟩) rfl rfl rfl
        show some (SV.v (.int .i64 _)) = _
        rw [i64_wrap (by omega) (by omega)]; simp
  · simp only [decide_eq_false_iff_not] at hq
    have hk' : k = ks.length := by omega
    subst hk'
    exact W_ret hte rfl ⟨hNk.le.trans hNp.le, _, _, _, _, _, _, rfl⟩
end Go.Fw
/- The walks of a view's keep and Commit in memory. -/
namespace Go.Fw
open Go.Proofs
theorem getK_delK (s j : ByteArray) : ∀ {kv : KV}, (kv.map (·.1)).Nodup → getK j (delK s kv) = if j = s then none else getK j kv := by
  intro kv
  induction kv with
  | nil => intro _; simp [delK, getK]
  | cons p kv ih =>
    obtain ⟨a, v⟩ := p
    intro hn
    simp only [List.map_cons, List.nodup_cons] at hn
    simp only [delK, beq_iff_eq]
    by_cases e : s = a
    · rw [if_pos e]
      subst e
      simp only [getK, beq_iff_eq]
      by_cases e2 : j = s
      · subst e2
        rw [if_pos rfl]
        cases h : getK j kv with
        | none => rfl
        | some u => exact absurd (getK_isSome.1 (by rw [h]; rfl)) hn.1
      · rw [if_neg e2, if_neg e2]
    · rw [if_neg e]
      simp only [getK, beq_iff_eq, ih hn.2]
      by_cases e2 : j = a
      · subst e2; rw [if_pos rfl, if_pos rfl, if_neg (Ne.symm e)]
      · rw [if_neg e2, if_neg e2]
structure ES where
  todo : KV
  km : KV
  X : Hp
theorem view_keep (X : Hp) (b rc rm : Nat) (kc km : KV) (hb : X b = some (.cells #[.map (some rc), .pointer none, .map (some rm), .int .i64 0] 75 (0, 0))) (hrc : MapX X rc kc) (hrm : MapX X rm km) (hne : rc ≠ rm)
    (hsh : ∀ k v, getK k kc = some v → ∃ a n c g, v = .agg #[.slice a n c, .bool g]) :
    Trip Tryz.prog 35 #[.pointer (some ⟨b, 0, none⟩)] X (Rt fun r X' => r = .tuple #[] ∧ CK X X' ∧ (∀ i o, X i = some o → i ≠ rm → X' i = some o) ∧ ∃ km', MapX X' rm km' ∧ (∀ k, getK k kc = none → getK k km' = getK k km) ∧ ∀ k w g, getK k kc = some (.agg #[w, .bool g]) → getK k km' = if g = true then none else some w) := by
  refine enter (args := [.pointer (some ⟨b, 0, none⟩)]) Tryz.func35 rfl (by decide) rfl fun w0 => ?_
  refine W_extp (cs := [.map (some rc), .pointer none, .map (some rm), .int .i64 0]) 0 rfl hb (fun j _ => by simp) ?_
  refine sx hte rfl ?_
  refine W_range hte mtC rfl hrc fun ib o hib hit => ⟨_, rfl, ?_⟩
  refine sx hte rfl ?_
  have hkeys : (kc.map (·.1)).Nodup := by
    obtain ⟨es, clock, _, hat⟩ := hrc
    exact hat.keys
  have hrmo : X rm ≠ none := by obtain ⟨es, clock, h, _⟩ := hrm; rw [h]; simp
  have hrmi : rm ≠ ib := fun e => by subst e; exact hrmo hib
  refine W_for (ι := ES) (fun i => IterX i.X ib rc i.todo none ∧ CK X i.X ∧ (∀ j o, X j = some o → j ≠ rm → i.X j = some o) ∧ MapX i.X rm i.km ∧ (∀ e ∈ i.todo, e ∈ kc) ∧ (i.todo.map (·.1)).Nodup ∧
      (∀ k, k ∈ i.todo.map (·.1) ∨ getK k kc = none → getK k i.km = getK k km) ∧ ∀ k w g, getK k kc = some (.agg #[w, .bool g]) → k ∉ i.todo.map (·.1) → getK k i.km = if g = true then none else some w) (fun i => i.todo.length) []
    (fun i => []) [] (fun _ => []) ES.X ⟨kc, km, _⟩ ⟨hit, (Le.upd _ hib).ck, fun j o hj _ => Le.upd _ hib _ _ hj, hrm.le (Le.upd _ hib), fun _ h => h, hkeys, fun _ _ => rfl, fun k w g hk hn => absurd (getK_isSome.1 (by rw [hk]; rfl)) hn⟩
    trivial trivial rfl rfl rfl fun i hi => ?_
  obtain ⟨todo, kmi, Xi⟩ := i
  obtain ⟨hI, hck, hX, hM, hS, hnd, hA, hB⟩ := hi
  simp only at hI hck hX hM hS hnd hA hB ⊢
  refine sx hte rfl ?_
  refine W_next rfl hI (fun h0 => ⟨_, rfl, ?_⟩) (fun t1 e t2 o2 ht hI2 => ⟨_, rfl, ?_⟩)
  · refine sx hte rfl ?_
    refine W_false rfl (sx hte rfl ?_)
    subst h0
    exact W_end hte rfl ⟨rfl, hck, hX, kmi, hM, fun k hk => hA k (.inr hk), fun k w g hk => hB k w g hk (by simp)⟩
  · obtain ⟨q0, hq0, hq1⟩ := hI.obj
    have hck2 : CK Xi (Xi.upd ib o2) := ck_map (Le.refl _) (fun cs T fz e => by rw [hq0] at e; exact hq1 _ _ _ (Option.some.inj e)) o2
    have hX2 : ∀ j o, X j = some o → j ≠ rm → (Xi.upd ib o2) j = some o := fun j o hj hjr => by
      rw [Hp.upd_ne _ _ (fun e => by subst e; rw [hib] at hj; cases hj)]; exact hX j o hj hjr
    have hM2 : MapX (Xi.upd ib o2) rm kmi := hM.ne _ hrmi
    have hckj := hck.trans hck2
    generalize Xi.upd ib o2 = Xj at hI2 hckj hX2 hM2 ⊢
    have hem : e ∈ kc := hS e (by rw [ht]; simp)
    have hgk : getK e.1 kc = some e.2 := getK_mem hkeys hem
    have hS' : ∀ z ∈ t1 ++ t2, z ∈ kc := fun z hz => hS z (by
      rw [ht]
      rcases List.mem_append.1 hz with h | h
      · exact List.mem_append.2 (.inl h)
      · exact List.mem_append.2 (.inr (List.mem_cons_of_mem _ h)))
    have hμ : (t1 ++ t2).length < todo.length := by rw [ht]; simp
    have hnd' := hnd
    rw [ht, List.map_append, List.map_cons] at hnd'
    have hnd2 : ((t1 ++ t2).map (·.1)).Nodup := by
      rw [List.map_append]
      exact hnd'.sublist (List.Sublist.append_left (List.sublist_cons_self _ _) _)
    have hnin : e.1 ∉ (t1 ++ t2).map (·.1) := by
      rw [List.map_append]
      have := (List.perm_middle.nodup_iff).1 hnd'
      exact (List.nodup_cons.1 this).1
    have htm : ∀ k, k ∈ todo.map (·.1) ↔ k = e.1 ∨ k ∈ (t1 ++ t2).map (·.1) := fun k => by
      rw [ht]; simp only [List.map_append, List.map_cons, List.mem_append, List.mem_cons]; constructor
      · rintro (h | h | h); exact .inr (.inl h); exact .inl h; exact .inr (.inr h)
      · rintro (h | h | h); exact .inr (.inl h); exact .inl h; exact .inr (.inr h)
    obtain ⟨ek, ev⟩ := e
    simp only at hgk hI2 hnin htm
    obtain ⟨wa, wn, wc, g, rfl⟩ := hsh ek ev hgk
    refine sx hte rfl ?_
    refine W_true rfl (sx hte rfl ?_)
    refine W_entry rfl hI2 rfl ?_
    refine sx hte rfl ?_
    have hkn : (kmi.map (·.1)).Nodup := by
      obtain ⟨es, clock, _, hat⟩ := hM2
      exact hat.keys
    have hmo : ∀ cs T fz, Xj rm ≠ some (.cells cs T fz) := hM2.notcells
    have step : ∀ (kmn : KV) (es : Array MapEntry) (clock : Nat), MapAt es clock kmn → (∀ k, getK k kmn = if k = ek then (if g = true then none else some (.slice wa wn wc)) else getK k kmi) →
        IterX (Xj.upd rm (.map es clock)) ib rc (t1 ++ t2) none ∧ CK X (Xj.upd rm (.map es clock)) ∧ (∀ j o, X j = some o → j ≠ rm → (Xj.upd rm (.map es clock)) j = some o) ∧ MapX (Xj.upd rm (.map es clock)) rm kmn ∧ (∀ e ∈ t1 ++ t2, e ∈ kc) ∧ ((t1 ++ t2).map (·.1)).Nodup ∧
      (∀ k, k ∈ (t1 ++ t2).map (·.1) ∨ getK k kc = none → getK k kmn = getK k km) ∧ ∀ k w g, getK k kc = some (.agg #[w, .bool g]) → k ∉ (t1 ++ t2).map (·.1) → getK k kmn = if g = true then none else some w := by
      intro kmn es clock hes hg
      refine ⟨?_, hckj.trans (ck_map (Le.refl _) hmo _), fun j o hj hjr => by rw [Hp.upd_ne _ _ hjr]; exact hX2 j o hj hjr, ⟨es, clock, Hp.upd_same _ _ _, hes⟩, hS', hnd2, fun k hk => ?_, fun k w g' hk hn => ?_⟩
      · obtain ⟨es0, cl0, kv0, seen0, i1, i2, i3⟩ := hI2.drop
        refine ⟨es0, cl0, kv0, seen0, ?_, ?_, i3⟩
        · rw [Hp.upd_ne _ _ (Ne.symm hrmi)]; exact i1
        · rw [Hp.upd_ne _ _ hne]; exact i2
      · rw [hg]
        have hne2 : k ≠ ek := by
          rintro rfl
          rcases hk with h | h
          · exact hnin h
          · rw [hgk] at h; cases h
        rw [if_neg hne2]
        exact hA k (by
          rcases hk with h | h
          · exact .inl ((htm k).2 (.inr h))
          · exact .inr h)
      · rw [hg]
        by_cases e : k = ek
        · subst e
          rw [if_pos rfl]
          rw [hgk] at hk
          injection hk with hk; injection hk with hk
          have h1 : Value.slice wa wn wc = w ∧ Value.bool g = Value.bool g' := by
            have := congrArg Array.toList hk
            simpa using this
          obtain ⟨h1, h2⟩ := h1
          injection h2 with h2
          rw [h1, h2]
        · rw [if_neg e]
          exact hB k w g' hk (fun h => by
            rcases (htm k).1 h with h | h
            · exact e h
            · exact hn h)
    refine W_if rfl (fun h1 => sx hte rfl ?_) (fun h1 => ?_)
    · refine W_mapdel hte mtM rfl rfl rfl hM2 fun es clock hes => ⟨_, rfl, ?_⟩
      refine sx hte rfl ?_
      refine W_again ⟨t1 ++ t2, delK ek kmi, _⟩ (step _ es clock hes fun k => by rw [getK_delK ek k hkn, h1]; simp) hμ trivial (by repeat first | exact trivial | refine ⟨rfl, ?_⟩) trivial (by repeat first | exact trivial | refine ⟨rfl, ?_⟩) rfl rfl rfl
    · refine W_drawX (Xs := Xj.del rm) [] mo (by kernel_rfl) (by kernel_rfl) rfl (Hp.del_le _ _) ?_
      repeat refine dx hte rfl (WD_1 rfl (SD_ex1 hte rfl rfl rfl rfl (by repeat first | exact trivial | refine ⟨rfl, ?_⟩) ?_))
      refine dx hte rfl ?_
      refine WD_1 rfl (SD_mapset hte mtM rfl rfl rfl rfl rfl hM2 (by simp [Hp.del]) fun es clock hes => ⟨_, rfl, ?_⟩)
      refine dx hte rfl (WD_done rfl (sx hte rfl ?_))
      refine W_again ⟨t1 ++ t2, setK ek (.slice wa wn wc) kmi, _⟩ (step _ es clock hes fun k => by rw [getK_setK, h1]; simp) hμ trivial (by repeat first | exact trivial | refine ⟨rfl, ?_⟩) trivial (by repeat first | exact trivial | refine ⟨rfl, ?_⟩) rfl rfl rfl
theorem view_Commit (X : Hp) (b : Nat) (s : VS) (h : VM X (.pointer (some ⟨b, 0, none⟩)) s) (hn : s.chg ≤ 1000000) :
    Trip Tryz.prog 11 #[.pointer (some ⟨b, 0, none⟩)] X (Rt fun r X' => r = .int .i64 0 ∧ CK X X' ∧ VM X' (.pointer (some ⟨b, 0, none⟩)) s.commit) := by
  have h' := h
  obtain ⟨b', rc, rm, kc, km, hpb, hb, hrc, hrm, hne, hm, hcg, hn1, hn2, hok⟩ := h
  have hbb : b = b' := by injection hpb with h; injection h with h; injection h
  subst hbb
  refine enter (args := [.pointer (some ⟨b, 0, none⟩)]) Tryz.func11 rfl (by decide) rfl fun w0 => ?_
  refine sx hte rfl ?_
  refine W_callP rfl rfl (view_ready X _ s h') rfl ?_
  refine sx hte rfl ?_
  refine W_false rfl (sx hte rfl ?_)
  refine W_call rfl rfl (view_Changes X b s h' hn) ?_
  rintro r X1 ⟨hL1, p, n, c, q, m, d, rfl⟩
  refine ⟨hL1.ck.kx, _, rfl, sx hte rfl ?_⟩
  have hfull : ∀ j, j < [Value.map (some rc), .pointer none, .map (some rm), .int .i64 0].length → (#[Value.map (some rc), .pointer none, .map (some rm), .int .i64 0] : Array Value)[j]? = [Value.map (some rc), .pointer none, .map (some rm), .int .i64 0][j]? := fun j _ => by simp
  have hb1 := hL1 _ _ hb
  refine W_v (V_load hte rfl hb1 hfull rfl) rfl ?_
  refine sx hte rfl ?_
  refine W_false rfl (sx hte rfl ?_)
  refine W_v (V_load hte rfl hb1 hfull rfl) rfl ?_
  refine sx hte rfl ?_
  refine W_true rfl (sx hte rfl ?_)
  have hsh : ∀ k v, getK k kc = some v → ∃ a n c g, v = .agg #[.slice a n c, .bool g] := fun k v e => by
    have h1 := hcg k.data.toList
    rw [ba_mk, e] at h1
    obtain ⟨w, g, h2, h3⟩ := h1
    cases g with
    | true => obtain ⟨_, rfl⟩ := h3; exact ⟨_, _, _, _, h2⟩
    | false => obtain ⟨d, _, ⟨a, c, rfl, _⟩⟩ := h3; exact ⟨_, _, _, _, h2⟩
  refine W_call rfl rfl (view_keep X1 b rc rm kc km hb1 (hrc.le hL1) (hrm.le hL1) hne hsh) ?_
  rintro r X2 ⟨rfl, hck2, hX2, km', hM2, hA, hB⟩
  refine ⟨hck2.kx, _, rfl, sx hte rfl ?_⟩
  have hb2 := hck2 _ _ _ _ hb1
  refine W_v (V_load hte rfl hb2 hfull rfl) rfl ?_
  refine sx hte rfl ?_
  have hrc2 : MapX X2 rc kc := by
    obtain ⟨es, clock, h1, h2⟩ := hrc.le hL1
    exact ⟨es, clock, hX2 _ _ h1 hne, h2⟩
  refine W_mapclear hte mtC rfl hrc2 fun clock => ⟨_, rfl, ?_⟩
  refine sx hte rfl ?_
  have hck3 := ck_map (Le.refl X2) hrc2.notcells (.map #[] clock)
  have hck13 := hck2.trans hck3
  have hst : ∀ k : Bs, match getK ⟨k.toArray⟩ km' with
      | none => getT k s.now = none
      | some v => ∃ d, getT k s.now = some d ∧ Bytes (X2.upd rc (.map #[] clock)) v d := fun k => by
    have h1 := hm k
    have h2 := hcg k
    cases e : getK ⟨k.toArray⟩ kc with
    | none =>
      rw [e] at h2
      rw [hA _ e]
      cases e2 : getK ⟨k.toArray⟩ km with
      | none => rw [e2] at h1; simp only at h1 h2 ⊢; rw [h2, h1]
      | some u =>
        rw [e2] at h1
        obtain ⟨d, h3, h4⟩ := h1
        simp only at h2
        exact ⟨d, h2.trans h3, h4.ck (hL1.ck.trans hck13)⟩
    | some u =>
      rw [e] at h2
      obtain ⟨w, g, rfl, h3⟩ := h2
      rw [hB _ w g e]
      cases g with
      | true => exact h3.1
      | false =>
        obtain ⟨d, h4, h5⟩ := h3
        exact ⟨d, h4, h5.ck (hL1.ck.trans hck13)⟩
  have hlen : km'.length ≤ s.now.length := by
    have hkn : (km'.map fun e => e.1.data.toList).Nodup := by
      obtain ⟨es, clock, _, hat⟩ := hM2
      have := hat.keys
      unfold List.Nodup at this ⊢
      rw [List.pairwise_map] at this ⊢
      exact this.imp fun {x y} h e => h (by rw [← ba_mk x.1, e, ba_mk y.1])
    have := keys_le (t := s.now) hkn fun k hk => by
      obtain ⟨e, he, rfl⟩ := List.mem_map.1 hk
      have h1 := hst e.1.data.toList
      have h2 : (getK ⟨e.1.data.toList.toArray⟩ km').isSome = true := getK_isSome.2 (by rw [ba_mk]; exact List.mem_map_of_mem he)
      cases h3 : getK ⟨e.1.data.toList.toArray⟩ km' with
      | none => rw [h3] at h2; cases h2
      | some u => rw [h3] at h1; obtain ⟨d, h4, _⟩ := h1; rw [h4]; rfl
    simpa using this
  exact W_ret hte rfl ⟨rfl, hL1.ck.trans hck13, b, rc, rm, [], km', rfl, hck3 _ _ _ _ hb2, ⟨#[], clock, Hp.upd_same _ _ _, MapAt.clear clock⟩, hM2.ne _ (Ne.symm hne), hne, hst, fun k => rfl, Nat.zero_le _, hlen, hok.commit⟩
end Go.Fw
/- The walk of all balances of a year. -/
namespace Go.Fw
open Go.Proofs
theorem balLine_none {y : Int} {p : Bs × Bs} (h : ¬ ((splitOf p.1).2.2 = true ∧ (unpOf p.2 1).2 = 0 ∧ (splitOf p.1).2.1.length = 3 ∧ num4 (p.1.drop 1) 0 = y)) : balLine y p = none := by
  unfold balLine; rw [if_neg h]
theorem balLine_some {y : Int} {p : Bs × Bs} (h : (splitOf p.1).2.2 = true ∧ (unpOf p.2 1).2 = 0 ∧ (splitOf p.1).2.1.length = 3 ∧ num4 (p.1.drop 1) 0 = y) : balLine y p = some ⟨num4 (p.1.drop 1) 1, num4 (p.1.drop 1) 2, 0, num8 p.2 0⟩ := by
  unfold balLine; rw [if_pos h]
theorem split3 {k : Bs} (h : (splitOf k).2.2 = true) (h2 : (splitOf k).2.1.length = 3) : (splitOf k).2.1 = [num4 (k.drop 1) 0, num4 (k.drop 1) 1, num4 (k.drop 1) 2] := by
  cases k with
  | nil => cases h
  | cons t b =>
    simp only [splitOf] at h h2 ⊢
    split at h
    · cases h
    · rename_i h3
      rw [if_neg h3] at h2 ⊢
      simp only [List.length_map, List.length_range] at h2
      simp only [h2]; rfl
theorem New.arr_of {Y X : Hp} {E : TypeId} {k : Nat} {p : Option Addr} {c : Nat} {vs : List (List Value)} (h : New Y X E k p c vs) {F : TypeId} {j : Nat} {q : Option Addr} {us : List (List Value)} (hA : Arr X F j q us) (hE : F ≠ E) : Arr Y F j q us :=
  hA.mono fun _ _ _ hb => h.ty hb hE
section
variable {cx : Cx} {k : List It} {σ : Fm} {H : Own} {nl : Nat} {X : Hp} {te : Te}
/-- What is only read may be let go. -/
theorem W_dropX (h : W cx k σ (dropX H) nl X) : W cx k σ H nl X := fun a w ρ hok => h a w ρ (hok.weaken (fun _ _ e => e) (fun _ _ hl => (look_dropX hl).1))
theorem kx_dropX {X' : Hp} : KX (dropX H) X X' := fun _ _ _ _ _ hl => by have := (look_dropX hl).2; cases this
theorem kx_cons {X' : Hp} {u : Nat} {T : TypeId} {cs : List Value} (h : KX H X X') : KX ((u, .own T cs) :: H) X X' := fun l b o T' cs' hl => by
  simp only [look] at hl
  cases hb : Nat.beq u l with
  | true => rw [hb] at hl; cases Option.some.inj hl
  | false => rw [hb] at hl; exact h l b o T' cs' hl
theorem V_loadO (hte : TeOk cx.P te) {T E : TypeId} {x : Operand} {b o' off : Nat} {full : Array Value} {fz : Nat × Nat} {cs : List Value} {v : Value} (hx : ev σ x = some (.v (.pointer (some ⟨b, o' + off, none⟩)))) (hX : X b = some (.cells full E fz)) (hc : ∀ j, j < cs.length → full[o' + j]? = cs[j]?) (hv : partO te T cs off = some v) : VOp cx.P σ X (.load T x) v := by
  intro a w o ho hev hs
  have ex := hev _ _ hx
  have hw : Win w (b, o') cs := ⟨full, E, fz, hs _ _ hX, fun j hj => hc j hj⟩
  have := run_loadVar_partO hte hw hv
  simp [execOp, ho, ex, Instr.loadAt, Instr.sureAddr, this]
end
theorem bal_All (X : Hp) (b : Nat) (y : Int) (s : VS) (h : VM X (pv b) s) (hn : s.was.length + s.chg ≤ 1000000) :
    Trip Tryz.prog 82 #[pv b, .int .i64 y] X (Rt fun r X' => ∃ p c, r = .slice p (balAll y s.now).length c ∧ Nw X X' 45 4 p c (lcells (balAll y s.now))) := by
  refine enter (args := [pv b, .int .i64 y]) Tryz.func82 rfl (by decide) rfl fun w0 => ?_
  refine sx hte rfl ?_
  refine W_layN 0 1 1 (icells [y]) rfl rfl (by simp [icells]) rfl (fun _ => rfl) rfl fun b1 X1 hN1 => ?_
  refine W_call rfl rfl (keys_Key X1 66 _ [y] 1 hN1.arr (Nat.le_refl _) (by simp)) ?_
  rintro r X2 ⟨kp, kc, rfl, hN2⟩
  refine ⟨hN2.le.ck.kx, _, rfl, sx hte rfl ?_⟩
  have hL2 := hN1.le.trans hN2.le
  refine W_call rfl rfl (view_Scan X2 _ _ s (keyOf 66 [y]) (h.le hL2) hN2.bytes (by omega)) ?_
  rintro r X3 ⟨p, c, rows, rfl, hN3, hR, hrn⟩
  refine ⟨hN3.le.ck.kx, _, rfl, sx hte rfl ?_⟩
  have hL3 := hL2.trans hN3.le
  have hrl := hR.length
  have hfit : ∀ q ∈ scanT (keyOf 66 [y]) s.now, q.1.length ≤ 32 ∧ q.2.length ≤ 120 := fun q hq => h.ok.fit q (List.mem_append.2 (.inr (List.mem_filter.1 hq).1))
  unfold balAll
  have hpl : (scanT (keyOf 66 [y]) s.now).length ≤ 1000000 := by omega
  generalize scanT (keyOf 66 [y]) s.now = ps at hR hrl hfit hpl ⊢
  refine W_for (ι := LI) (fun i => i.k ≤ ps.length ∧ i.done = (ps.take i.k).filterMap (balLine y) ∧ i.done.length ≤ i.k ∧ Nw X3 i.X 45 4 i.p i.c (lcells i.done)) (fun i => ps.length - i.k) [5, 19, 8, 9, 10, 11, 12]
    (fun i => [(5, .v (.slice i.p i.done.length i.c)), (19, .v (.int .i64 i.k))]) [] (fun _ => []) LI.X ⟨0, [], none, 0, X3⟩ ⟨by simp, rfl, by simp, Nw.nil _ _ _⟩
    ⟨rfl, rfl, trivial⟩ trivial rfl rfl rfl fun i hi => ?_
  obtain ⟨k, done, q, c2, Xi⟩ := i
  obtain ⟨hk, hd, hlen, hN⟩ := hi
  simp only at hk hd hlen hN ⊢
  refine sx hte rfl ?_
  refine W_if rfl (fun hq => sx hte rfl ?_) (fun hq => sx hte rfl ?_)
  · simp only [decide_eq_true_eq] at hq
    have hk' : k < ps.length := by omega
    obtain ⟨row, hrow, hpr⟩ := hR.at (List.getElem?_eq_getElem hk')
    have hft := hfit ps[k] (List.getElem_mem hk')
    have hd2 : (ps.take (k + 1)).filterMap (balLine y) = done ++ (balLine y ps[k]).toList := by
      rw [hd, List.take_succ_eq_append_getElem hk', List.filterMap_append]
      cases h0 : balLine y ps[k] <;> simp [h0]
    generalize ps[k] = pr at hpr hft hd2
    obtain ⟨kv, wv, rfl, ⟨ka, kc2, rfl, hkA, hkc⟩, ⟨wa, wc, rfl, hwA, hwc⟩⟩ := hpr
    refine W_idx (m := k) hte rfl rfl rfl rfl rfl (hN3.arr.ck hN.le.ck) rfl (by omega) hrow rfl fun bb o => ?_
    refine sx hte rfl ?_
    refine W_call rfl rfl (keys_Split Xi ka pr.1 kc2 (hkA.ck hN.le.ck) hkc (by omega)) ?_
    rintro r X4 ⟨sp, sc, rfl, hN4⟩
    refine ⟨hN4.le.ck.kx, _, rfl, sx hte rfl ?_⟩
    refine W_call rfl rfl (bal_number X4 wa pr.2 wc (hwA.ck (hN.le.trans hN4.le).ck) hwc (by omega)) ?_
    rintro r X5 ⟨hL5, rfl⟩
    refine ⟨hL5.ck.kx, _, rfl, sx hte rfl ?_⟩
    have hL35 := hN.le.trans (hN4.le.trans hL5)
    obtain ⟨Y, hlY, hNY⟩ := hN.re (hN4.le.trans hL5)
    have hsA : Arr Y 3 1 sp (icells (splitOf pr.1).2.1) := hNY.arr_of (hN4.arr.ck hL5.ck) (by decide)
    refine W_guard rfl rfl (fun hb => ?_) (fun hb => ⟨_, rfl, ?_⟩)
    · have hb' := hb
      rw [Bool.and_eq_true, Bool.and_eq_true, decide_eq_true_eq, beq_iff_eq] at hb'
      obtain ⟨⟨hok, hun⟩, hl3⟩ := hb'
      have hl3 : (splitOf pr.1).2.1.length = 3 := by omega
      have e3 := split3 hok hl3
      refine W_ung 46 rfl hb ?_
      refine W_idx (m := 0) (v := [.int .i64 (num4 (pr.1.drop 1) 0)]) hte rfl rfl rfl rfl rfl (hN4.arr.ck hL5.ck) rfl (by omega) (by rw [e3]; rfl) rfl fun bb o => ?_
      refine sx hte rfl ?_
      refine W_if rfl (fun h5 => sx hte rfl ?_) (fun h5 => sx hte rfl ?_)
      · have hy : num4 (pr.1.drop 1) 0 = y := by rw [hb] at h5; simpa using h5
        rw [balLine_some ⟨hok, hun, hl3, hy⟩] at hd2
        have hnum : numberOf pr.2 = num8 pr.2 0 := by unfold numberOf; rw [if_pos hun]
        rw [hnum]
        rw [e3] at hsA
        obtain ⟨sb, so, fz, full, rfl, hsX, hsc⟩ := hsA.flat (by simp [icells])
        refine W_dropX ?_
        refine W_drawX (Xs := Y) [] mo (by kernel_rfl) (by kernel_rfl) rfl hNY.le ?_
        refine dx hte rfl ?_
        refine WD_v (i := 2) rfl rfl (V_at (m := 1) hte rfl rfl rfl rfl rfl rfl (by omega)) rfl ?_
        refine dx hte rfl ?_
        refine WD_v (i := 3) rfl rfl (V_loadO (off := 1) (v := .int .i64 (num4 (pr.1.drop 1) 1)) hte rfl hsX hsc rfl) rfl ?_
        refine dx hte rfl ?_
        refine WD_v (i := 5) rfl rfl (V_at (m := 2) hte rfl rfl rfl rfl rfl rfl (by omega)) rfl ?_
        refine dx hte rfl ?_
        refine WD_v (i := 6) rfl rfl (V_loadO (off := 2) (v := .int .i64 (num4 (pr.1.drop 1) 2)) hte rfl hsX hsc rfl) rfl ?_
        refine dx hte rfl ?_
        refine WD_1 rfl (SD_ex1 hte rfl rfl rfl rfl (by repeat first | exact trivial | refine ⟨rfl, ?_⟩) ?_)
        refine dx hte rfl ?_
        refine WD_1 rfl (SD_app (us := [Line.cells ⟨num4 (pr.1.drop 1) 1, num4 (pr.1.drop 1) 2, 0, num8 pr.2 0⟩]) hte rfl rfl rfl rfl rfl rfl rfl rfl (by decide) hNY (lcells_length _).symm (by simp [Line.cells]; rfl) rfl (Src.lab rfl rfl rfl) (by simp [one, Line.cells]) (by simp only [List.length_cons, List.length_nil]; omega) (Le.refl _) (fun _ _ => ?_) fun p' c' X' (hN' : New _ _ _ 4 _ _ _) => ⟨_, rfl, ?_⟩)
        · exact kx_cons kx_dropX
        · refine dx hte rfl (WD_done rfl (sx hte rfl ?_))
          have hN2 : Nw X3 X' 45 4 p' c' (lcells (done ++ [⟨num4 (pr.1.drop 1) 1, num4 (pr.1.drop 1) 2, 0, num8 pr.2 0⟩])) := ⟨Y, hlY, by simpa [lcells] using hN'⟩
          refine W_again ⟨k + 1, _, p', c', X'⟩ ⟨by dsimp only; omega, hd2.symm, by simp; omega, hN2⟩ (by dsimp only; omega) ⟨?_, ?_, trivial⟩ (by repeat first | exact trivial | refine ⟨rfl, ?_⟩) trivial (by repeat first | exact trivial | refine ⟨rfl, ?_⟩) rfl rfl rfl
          · show some (SV.v (.slice p' _ c')) = _
            simp
          · show some (SV.v (.int .i64 _)) = _
            rw [i64_wrap (by omega) (by omega)]; simp
      · have hy : ¬ num4 (pr.1.drop 1) 0 = y := by rw [hb] at h5; simpa using h5
        rw [balLine_none (fun h => hy h.2.2.2)] at hd2
        refine W_again ⟨k + 1, done, q, c2, X5⟩ ⟨by dsimp only; omega, by simpa using hd2.symm, by dsimp only; omega, Y, hlY, hNY⟩ (by dsimp only; omega) ⟨rfl, ?_, trivial⟩ (by repeat first | exact trivial | refine ⟨rfl, ?_⟩) trivial (by repeat first | exact trivial | refine ⟨rfl, ?_⟩) rfl rfl rfl
        show some (SV.v (.int .i64 _)) = _
        rw [i64_wrap (by omega) (by omega)]; simp
    · have hbn : ¬ ((splitOf pr.1).2.2 = true ∧ (unpOf pr.2 1).2 = 0 ∧ (splitOf pr.1).2.1.length = 3 ∧ num4 (pr.1.drop 1) 0 = y) := fun h => by
        rw [h.1, h.2.1, h.2.2.1] at hb; cases hb
      rw [balLine_none hbn] at hd2
      refine W_guard_n rfl rfl hb rfl ?_
      refine sx hte rfl ?_
      refine W_guard_n rfl rfl hb rfl ?_
      refine W_pick (s := .v (.bool false)) rfl (by rw [hb]; rfl) rfl ?_
      refine sx hte rfl ?_
      refine W_false rfl (sx hte rfl ?_)
      refine W_again ⟨k + 1, done, q, c2, X5⟩ ⟨by dsimp only; omega, by simpa using hd2.symm, by dsimp only; omega, Y, hlY, hNY⟩ (by dsimp only; omega) ⟨rfl, ?_, trivial⟩ (by repeat first | exact trivial | refine ⟨rfl, ?_⟩) trivial (by repeat first | exact trivial | refine ⟨rfl, ?_⟩) rfl rfl rfl
      show some (SV.v (.int .i64 _)) = _
      rw [i64_wrap (by omega) (by omega)]; simp
  · simp only [decide_eq_false_iff_not] at hq
    have hk' : k = ps.length := by omega
    subst hk'
    rw [List.take_length] at hd
    subst hd
    obtain ⟨Y, hlY, hNY⟩ := hN
    exact W_ret hte rfl ⟨q, c2, rfl, Y, hL3.trans hlY, hNY⟩
end Go.Fw
/- The walks of a trial balance. -/
namespace Go.Fw
open Go.Proofs Go.RowKit
section
variable {cx : Cx} {k k' : List It} {σ σ' : Fm} {H H' H0 : Own} {nl nl' : Nat} {X Xs : Hp} {a : Act} {w : World} {te : Te} {ops : Array Oper} {L : List Nat} {i : Nat}
theorem V_pick {P : Program} {c x y : Operand} {b : Bool} {v : Value} (hc : ev σ c = some (.v (.bool b))) (hs : (match b with | true => ev σ x | false => ev σ y) = some (.v v)) : VOp P σ X (.pick c x y) v := by
  intro a w o ho hev hsub
  have ec := hev _ _ hc
  cases b with
  | true => simp [execOp, ho, ec, asBool, hev _ _ hs]
  | false => simp [execOp, ho, ec, asBool, hev _ _ hs]
theorem SD_stN (hte : TeOk cx.P te) {T E : TypeId} {x y : Operand} {ty : TypeId} {pos : String} {after : Array Edge} {X0 : Hp} {b at' off kk c m : Nat} {vs : List (List Value)} {u : List Value} {v : Value} {q : SV} {ti : TI} (ht : te T = some ti) (hsz : (cellsL v).length = ti.size)
    (hi : nthL ops.toList i = some { dst := none, op := .store T x y, type := ty, pos := pos, after := after, guard := none })
    (hx : ev σ x = some (.v (.pointer (some ⟨b, at', none⟩)))) (hy : ev σ y = some q) (hq : real H q = some v) (hN : New X0 X E kk (some ⟨b, 0, none⟩) c vs) (hat : at' = m * kk + off) (hu : vs[m]? = some u) (hl : off + ti.size ≤ kk) (hone : allOne (cellsL v) = true)
    (hxs : Xs b = none) (hK : ∀ X', KX H X X')
    (hk : ∀ X', New X0 X' E kk (some ⟨b, 0, none⟩) c (vs.set m (putL u off (cellsL v))) → WD cx ops k H0 Xs (i :: L) σ H nl X') : SD cx ops k H0 Xs L σ H nl X i := by
  rcases hN.2 with ⟨_, h, _⟩ | ⟨b', sp, e, hb0, rfl, hl1, hl2⟩
  · cases h
  · have eb : b = b' := by injection e with e; injection e
    subst eb
    have hul : u.length = kk := hN.1 u (List.mem_of_getElem? hu)
    have hm : m < vs.length := by
      rcases Nat.lt_or_ge m vs.length with h | h
      · exact h
      · rw [List.getElem?_eq_none h] at hu; cases hu
    have hsplit : vs = vs.take m ++ u :: vs.drop (m + 1) := by
      conv => lhs; rw [← List.take_append_drop m vs]
      rw [List.drop_eq_getElem_cons hm]
      rw [List.getElem?_eq_getElem hm] at hu
      rw [Option.some.inj hu]
    have hset : vs.set m (putL u off (cellsL v)) = vs.take m ++ putL u off (cellsL v) :: vs.drop (m + 1) := List.set_eq_take_append_cons_drop .. |>.trans (by rw [if_pos hm])
    have hpre : (vs.take m).flatten.length = m * kk := by rw [flat_len (fun v hv => hN.1 v (List.mem_of_mem_take hv)), List.length_take, Nat.min_eq_left (by omega)]
    have e0 : vs.flatten ++ sp = (vs.take m).flatten ++ (u ++ ((vs.drop (m + 1)).flatten ++ sp)) := by
      conv => lhs; rw [hsplit]
      simp
    have e1 : putL (vs.flatten ++ sp) at' (cellsL v) = (vs.set m (putL u off (cellsL v))).flatten ++ sp := by
      rw [e0, hat, ← hpre, putL_mid _ _ _ _ _ (by omega), hset]; simp
    refine SD_stX hte ht hsz hi hx hy hq (Hp.upd_same _ _ _) ?_ hone hxs (hK _) ?_
    · rw [e0]; simp only [List.length_append]; omega
    · rw [upd_upd, e1]
      refine hk _ ⟨fun z hz => ?_, .inr ⟨b, sp, rfl, hb0, rfl, ?_, by simpa using hl2⟩⟩
      · rcases List.mem_or_eq_of_mem_set hz with h | rfl
        · exact hN.1 z h
        · rw [putL_length, hul]
      · rw [← e1, putL_length, hl1]
theorem Arr.at {E : TypeId} {k : Nat} {b off : Nat} {vs : List (List Value)} (h : Arr X E k (some ⟨b, off, none⟩) vs) {m : Nat} {v : List Value} (hv : vs[m]? = some v) : ∃ fz full, X b = some (.cells full E fz) ∧ ∀ j, j < v.length → full[off + m * k + j]? = v[j]? := by
  have hvl := h.uni v (List.mem_of_getElem? hv)
  rcases h.mem with hm | ⟨b', off', fz, cs, h1, h2, h3⟩
  · subst hm; cases hv
  · injection h1 with h1
    injection h1 with h1 h4
    subst h1 h4
    exact ⟨fz, cs, h2, fun j hj => h3 m v hv j (by omega)⟩
end
def Sm.cells (s : Sm) : List Value := [.int .i64 s.fund, .int .i64 s.debits, .int .i64 s.credits]
def scells (l : List Sm) : List (List Value) := l.map Sm.cells
theorem scells_length (l : List Sm) : (scells l).length = l.length := by simp [scells]
theorem trial_add (X : Hp) (s : Sm) (l : Line) : Trip Tryz.prog 83 #[.agg s.cells.toArray, .agg l.cells.toArray] X (Pu (.agg (s.add l).cells.toArray) X) := by
  refine enter (args := [.agg s.cells.toArray, .agg l.cells.toArray]) Tryz.func83 rfl (by decide) rfl fun w0 => ?_
  refine sx hte rfl ?_
  unfold Sm.add
  refine W_if rfl (fun h1 => sx hte rfl ?_) (fun h1 => sx hte rfl ?_)
  · rw [if_pos (by simpa using h1)]
    exact W_ret hte rfl ⟨rfl, rfl⟩
  · rw [if_neg (by simpa using h1)]
    exact W_ret hte rfl ⟨rfl, rfl⟩
theorem trial_together (X : Hp) (p : Option Addr) (l : List Line) (c : Nat) (o : Int) (hA : Arr X 45 4 p (lcells l)) (hl : l.length ≤ 1000000) :
    Trip Tryz.prog 84 #[.slice p l.length c, .int .i64 o] X (Pu (.int .i64 (together l o)) X) := by
  refine enter (args := [.slice p l.length c, .int .i64 o]) Tryz.func84 rfl (by decide) rfl fun w0 => ?_
  refine sx hte rfl ?_
  refine W_for (ι := AI) (fun i => i.k ≤ l.length) (fun i => l.length - i.k) [5, 10]
    (fun i => [(5, .v (.int .i64 (together (l.take i.k) o))), (10, .v (.int .i64 i.k))]) [] (fun _ => []) (fun _ => X) ⟨0⟩ (Nat.zero_le _)
    ⟨rfl, rfl, trivial⟩ trivial rfl rfl rfl fun i hi => ?_
  obtain ⟨k⟩ := i
  simp only at hi ⊢
  refine sx hte rfl ?_
  refine W_if rfl (fun hq => sx hte rfl ?_) (fun hq => sx hte rfl ?_)
  · simp only [decide_eq_true_eq] at hq
    have hk' : k < l.length := by omega
    have hrow : (lcells l)[k]? = some l[k].cells := by simp [lcells, hk']
    refine W_idx (m := k) hte rfl rfl rfl rfl rfl hA rfl (by omega) hrow rfl fun bb oo => ?_
    refine sx hte rfl ?_
    have hd2 : together (l.take (k + 1)) o = if l[k].object = o then w64 (together (l.take k) o + l[k].amount) else together (l.take k) o := by
      unfold together; rw [List.take_succ_eq_append_getElem hk', List.foldl_append]; rfl
    generalize l[k] = x at hd2 ⊢
    refine W_if rfl (fun h1 => sx hte rfl ?_) (fun h1 => sx hte rfl ?_)
    · rw [if_pos (by simpa using h1)] at hd2
      refine W_again ⟨k + 1⟩ (by dsimp only; omega) (by dsimp only; omega) ⟨?_, ?_, trivial⟩ (by repeat first | exact trivial | refine ⟨rfl, ?_⟩) trivial (by repeat first | exact trivial | refine ⟨rfl, ?_⟩) rfl rfl rfl
      · show some (SV.v (.int .i64 _)) = _
        rw [hd2]
      · show some (SV.v (.int .i64 _)) = _
        rw [i64_wrap (by omega) (by omega)]; simp
    · rw [if_neg (by simpa using h1)] at hd2
      refine W_again ⟨k + 1⟩ (by dsimp only; omega) (by dsimp only; omega) ⟨?_, ?_, trivial⟩ (by repeat first | exact trivial | refine ⟨rfl, ?_⟩) trivial (by repeat first | exact trivial | refine ⟨rfl, ?_⟩) rfl rfl rfl
      · show some (SV.v (.int .i64 _)) = _
        rw [hd2]
      · show some (SV.v (.int .i64 _)) = _
        rw [i64_wrap (by omega) (by omega)]; simp
  · simp only [decide_eq_false_iff_not] at hq
    have hk' : k = l.length := by omega
    subst hk'
    rw [List.take_length]
    exact W_ret hte rfl ⟨rfl, rfl⟩
theorem balAll_length (y : Int) (s : VS) : (balAll y s.now).length ≤ (scanT (keyOf 66 [y]) s.now).length := List.length_filterMap_le _ _
theorem trial_Due (X : Hp) (b : Nat) (y : Int) (s : VS) (h : VM X (pv b) s) (hn : s.was.length + s.chg ≤ 1000000) (hl : (balAll y s.now).length ≤ 1000000) :
    Trip Tryz.prog 39 #[pv b, .int .i64 y] X (Rt fun r X' => Le X X' ∧ r = .tuple #[.int .i64 (together (balAll y s.now) 1900), .int .i64 (w64 (0 - together (balAll y s.now) 2900))]) := by
  refine enter (args := [pv b, .int .i64 y]) Tryz.func39 rfl (by decide) rfl fun w0 => ?_
  refine sx hte rfl ?_
  refine W_call rfl rfl (bal_All X b y s h hn) ?_
  rintro r X1 ⟨p, c, rfl, hN⟩
  refine ⟨hN.le.ck.kx, _, rfl, sx hte rfl ?_⟩
  refine W_callP rfl rfl (trial_together X1 p _ c 1900 hN.arr hl) rfl ?_
  refine sx hte rfl ?_
  refine W_callP rfl rfl (trial_together X1 p _ c 2900 hN.arr hl) rfl ?_
  refine sx hte rfl ?_
  exact W_ret hte rfl ⟨hN.le, rfl⟩
structure TI2 where
  k : Nat
  out : List Sm
  p : Option Addr
  c : Nat
  X : Hp
theorem trial_Sums (X : Hp) (b : Nat) (y : Int) (s : VS) (h : VM X (pv b) s) (hn : s.was.length + s.chg ≤ 1000000) (hl : (balAll y s.now).length ≤ 1000000) :
    Trip Tryz.prog 38 #[pv b, .int .i64 y] X (Rt fun r X' => ∃ p c, r = .slice p (sumsOf (balAll y s.now)).length c ∧ Nw X X' 85 3 p c (scells (sumsOf (balAll y s.now))) ∧ (sumsOf (balAll y s.now)).length ≤ 1000000) := by
  refine enter (args := [pv b, .int .i64 y]) Tryz.func38 rfl (by decide) rfl fun w0 => ?_
  refine sx hte rfl ?_
  refine W_call rfl rfl (bal_All X b y s h hn) ?_
  rintro r X1 ⟨p, c, rfl, hN1⟩
  refine ⟨hN1.le.ck.kx, _, rfl, sx hte rfl ?_⟩
  generalize balAll y s.now = l at hN1 hl ⊢
  refine W_for (ι := TI2) (fun i => i.k ≤ l.length ∧ i.out = sumsOf (l.take i.k) ∧ i.out.length ≤ i.k ∧ Nw X1 i.X 85 3 i.p i.c (scells i.out)) (fun i => l.length - i.k) [5, 14, 8, 9]
    (fun i => [(5, .v (.slice i.p i.out.length i.c)), (14, .v (.int .i64 i.k))]) [] (fun _ => []) TI2.X ⟨0, [], none, 0, X1⟩ ⟨by simp, rfl, by simp, Nw.nil _ _ _⟩
    ⟨rfl, rfl, trivial⟩ trivial rfl rfl rfl fun i hi => ?_
  obtain ⟨k, out, q, c2, Xi⟩ := i
  obtain ⟨hk, hd, hlen, hN⟩ := hi
  simp only at hk hd hlen hN ⊢
  refine sx hte rfl ?_
  refine W_if rfl (fun hq => sx hte rfl ?_) (fun hq => sx hte rfl ?_)
  · simp only [decide_eq_true_eq] at hq
    have hk' : k < l.length := by omega
    have hrow : (lcells l)[k]? = some l[k].cells := by simp [lcells, hk']
    refine W_idx (m := k) hte rfl rfl rfl rfl rfl (hN1.arr.ck hN.le.ck) rfl (by omega) hrow rfl fun bb o => ?_
    refine sx hte rfl ?_
    have hd2 : sumsOf (l.take (k + 1)) = sumStep out l[k] := by
      rw [hd]; unfold sumsOf; rw [List.take_succ_eq_append_getElem hk', List.foldl_append]; rfl
    generalize l[k] = x at hd2 ⊢
    have hw9 : ∀ (lo : List Sm) (n : Nat), lo.length ≤ 1000000 → n = lo.length + 1 → IntKind.i64.wrap ((n : Int) - 1) = (lo.length : Nat) := fun lo n h0 hn => by rw [i64_wrap (by omega) (by omega)]; omega
    rcases List.eq_nil_or_concat out with rfl | ⟨lo, sl, rfl⟩
    · refine W_dropX ?_
      refine W_drawL [] mo (by kernel_rfl) (by kernel_rfl) rfl ?_
      refine dx hte rfl ?_
      refine WD_gn (i := 3) rfl rfl rfl rfl rfl rfl rfl ?_
      refine WD_gn (i := 4) rfl rfl rfl rfl rfl rfl rfl ?_
      refine WD_gn (i := 5) rfl rfl rfl rfl rfl rfl rfl ?_
      refine WD_gn (i := 6) rfl rfl rfl rfl rfl rfl rfl ?_
      refine WD_gn (i := 7) rfl rfl rfl rfl rfl rfl rfl ?_
      refine WD_gn (i := 8) rfl rfl rfl rfl rfl rfl rfl ?_
      refine WD_gn (i := 9) rfl rfl rfl rfl rfl rfl rfl ?_
      refine WD_gn (i := 10) rfl rfl rfl rfl rfl rfl rfl ?_
      refine WD_gn (i := 11) rfl rfl rfl rfl rfl rfl rfl ?_
      refine WD_v (i := 12) rfl rfl (V_pick rfl rfl) rfl ?_
      refine dx hte rfl (WD_done rfl (sx hte rfl ?_))
      refine W_true rfl (sx hte rfl ?_)
      obtain ⟨Y, hlY, hNY⟩ := hN
      refine W_app (us := [Sm.cells ⟨x.fund, 0, 0⟩]) hte rfl rfl rfl rfl rfl rfl rfl (by decide) hNY (scells_length _).symm (by simp [Sm.cells]; rfl) rfl (Src.lab rfl rfl rfl) (by simp [one, Sm.cells]) (by simp) fun p' c' X' (hN' : New _ _ _ 3 _ _ _) => ⟨_, rfl, ?_⟩
      refine sx hte rfl ?_
      rw [hw9 [] _ (by simp) (by simp)]
      obtain ⟨ob, sp, rfl, hobY, hXe, _, _⟩ := (hN'.2.resolve_left (fun h => by simp [scells] at h))
      have hrs : (scells [] ++ [Sm.cells ⟨x.fund, 0, 0⟩])[([] : List Sm).length]? = some (Sm.cells ⟨x.fund, 0, 0⟩) := by simp [scells]
      obtain ⟨fz, full, hfX, hfc⟩ := hN'.arr.at hrs
      have hset : (scells [] ++ [Sm.cells ⟨x.fund, 0, 0⟩]).set ([] : List Sm).length (Sm.add ⟨x.fund, 0, 0⟩ x).cells = scells ([] ++ [Sm.add ⟨x.fund, 0, 0⟩ x]) := by simp [scells]
      have hd3 : sumStep [] x = [] ++ [Sm.add ⟨x.fund, 0, 0⟩ x] := rfl
      refine W_dropX ?_
      refine W_drawX (Xs := Y) [] mo (by kernel_rfl) (by kernel_rfl) rfl hN'.le ?_
      refine dx hte rfl ?_
      refine WD_v (i := 4) rfl rfl (V_at (m := ([] : List Sm).length) hte rfl rfl rfl rfl rfl rfl (by simp)) rfl ?_
      refine dx hte rfl ?_
      refine WD_1 rfl (SD_v rfl (V_loadO (off := 0) (v := .agg (Sm.cells ⟨x.fund, 0, 0⟩).toArray) hte rfl hfX hfc rfl) rfl ?_)
      refine dx hte rfl ?_
      refine WD_1 rfl (SD_callP hN'.le rfl rfl rfl (trial_add X' ⟨x.fund, 0, 0⟩ x) rfl ?_)
      refine dx hte rfl ?_
      refine WD_v (i := 8) rfl rfl (V_at (m := ([] : List Sm).length) hte rfl rfl rfl rfl rfl rfl (by simp)) rfl ?_
      refine dx hte rfl ?_
      refine WD_1 rfl (SD_stN (m := ([] : List Sm).length) (off := 0) hte rfl rfl rfl rfl rfl rfl hN' (Nat.zero_add _) hrs (by decide) rfl hobY (fun _ => kx_dropX) fun X9 hN9 => ?_)
      refine dx hte rfl (WD_done rfl (sx hte rfl ?_))
      rw [show (putL (Sm.cells ⟨x.fund, 0, 0⟩) 0 (cellsL (.agg (Sm.add ⟨x.fund, 0, 0⟩ x).cells.toArray))) = (Sm.add ⟨x.fund, 0, 0⟩ x).cells from rfl, hset] at hN9
      refine W_again ⟨k + 1, [] ++ [Sm.add ⟨x.fund, 0, 0⟩ x], _, c', X9⟩ ⟨by dsimp only; omega, by rw [hd2, hd3], by simp at hlen ⊢ <;> omega, Y, hlY, hN9⟩ (by dsimp only; omega) ⟨?_, ?_, trivial⟩ (by repeat first | exact trivial | refine ⟨rfl, ?_⟩) trivial (by repeat first | exact trivial | refine ⟨rfl, ?_⟩) rfl rfl rfl
      · show some (SV.v (.slice _ _ c')) = _
        simp
      · show some (SV.v (.int .i64 _)) = _
        rw [i64_wrap (by omega) (by omega)]; simp
    · have hcat : lo.concat sl = lo ++ [sl] := List.concat_eq_append
      rw [hcat] at hd hlen hN hd2 ⊢
      have hne : ((((lo ++ [sl]).length : Nat) : Int) == 0) = false := by simp; omega
      obtain ⟨Y, hlY, hNY⟩ := hN
      obtain ⟨ob, sp, hqe, hobY, hXe, _, _⟩ := (hNY.2.resolve_left (fun h => by simp [scells] at h))
      subst hqe
      have hrs : (scells (lo ++ [sl]))[lo.length]? = some sl.cells := by simp [scells]
      obtain ⟨fz, full, hfX, hfc⟩ := hNY.arr.at hrs
      refine W_dropX ?_
      refine W_drawL [] mo (by kernel_rfl) (by kernel_rfl) rfl ?_
      refine dx hte rfl ?_
      refine WD_gx (i := 3) hte rfl rfl rfl rfl rfl hne rfl rfl ?_
      refine WD_gx (i := 4) hte rfl rfl rfl rfl rfl hne rfl rfl ?_
      refine WD_gx (i := 5) hte rfl rfl rfl rfl rfl hne rfl rfl ?_
      have hw : IntKind.i64.wrap ((((lo ++ [sl]).length : Nat) : Int) - 1) = (lo.length : Nat) := by rw [i64_wrap (by omega) (by omega)]; simp
      rw [hw]
      refine WD_gv (i := 6) rfl rfl rfl rfl hne (V_at (m := lo.length) hte rfl rfl rfl rfl rfl rfl (by simp)) rfl ?_
      refine WD_gx (i := 7) hte rfl rfl rfl rfl rfl hne rfl rfl ?_
      refine WD_gv (i := 8) rfl rfl rfl rfl hne (V_loadO (off := 0) (v := .int .i64 sl.fund) hte rfl hfX hfc rfl) rfl ?_
      refine WD_gx (i := 9) hte rfl rfl rfl rfl rfl hne rfl rfl ?_
      refine WD_gx (i := 10) hte rfl rfl rfl rfl rfl hne rfl rfl ?_
      refine WD_gx (i := 11) hte rfl rfl rfl rfl rfl hne rfl rfl ?_
      refine WD_v (i := 12) rfl rfl (V_pick (v := .bool (sl.fund != x.fund)) rfl (by rw [hne]; rfl)) rfl ?_
      refine dx hte rfl (WD_done rfl (sx hte rfl ?_))
      refine W_if rfl (fun hf => sx hte rfl ?_) (fun hf => sx hte rfl ?_)
      · have hd3 : sumStep (lo ++ [sl]) x = (lo ++ [sl]) ++ [Sm.add ⟨x.fund, 0, 0⟩ x] := by
          unfold sumStep; rw [List.getLast?_concat]; simp only; rw [if_pos (by simpa using hf)]
        refine W_app (us := [Sm.cells ⟨x.fund, 0, 0⟩]) hte rfl rfl rfl rfl rfl rfl rfl (by decide) hNY (scells_length _).symm (by simp [Sm.cells]; rfl) rfl (Src.lab rfl rfl rfl) (by simp [one, Sm.cells]) (by simp at hlen ⊢; omega) fun p' c' X' (hN' : New _ _ _ 3 _ _ _) => ⟨_, rfl, ?_⟩
        refine sx hte rfl ?_
        rw [hw9 (lo ++ [sl]) _ (by omega) (by simp)]
        obtain ⟨ob, sp, rfl, hobY, hXe, _, _⟩ := (hN'.2.resolve_left (fun h => by simp [scells] at h))
        have hrs : (scells (lo ++ [sl]) ++ [Sm.cells ⟨x.fund, 0, 0⟩])[(lo ++ [sl]).length]? = some (Sm.cells ⟨x.fund, 0, 0⟩) := by simp [scells]
        obtain ⟨fz, full, hfX, hfc⟩ := hN'.arr.at hrs
        have hset : (scells (lo ++ [sl]) ++ [Sm.cells ⟨x.fund, 0, 0⟩]).set (lo ++ [sl]).length (Sm.add ⟨x.fund, 0, 0⟩ x).cells = scells ((lo ++ [sl]) ++ [Sm.add ⟨x.fund, 0, 0⟩ x]) := by simp [scells]
        refine W_dropX ?_
        refine W_drawX (Xs := Y) [] mo (by kernel_rfl) (by kernel_rfl) rfl hN'.le ?_
        refine dx hte rfl ?_
        refine WD_v (i := 4) rfl rfl (V_at (m := ((lo ++ [sl]) : List Sm).length) hte rfl rfl rfl rfl rfl rfl (by simp)) rfl ?_
        refine dx hte rfl ?_
        refine WD_1 rfl (SD_v rfl (V_loadO (off := 0) (v := .agg (Sm.cells ⟨x.fund, 0, 0⟩).toArray) hte rfl hfX hfc rfl) rfl ?_)
        refine dx hte rfl ?_
        refine WD_1 rfl (SD_callP hN'.le rfl rfl rfl (trial_add X' ⟨x.fund, 0, 0⟩ x) rfl ?_)
        refine dx hte rfl ?_
        refine WD_v (i := 8) rfl rfl (V_at (m := ((lo ++ [sl]) : List Sm).length) hte rfl rfl rfl rfl rfl rfl (by simp)) rfl ?_
        refine dx hte rfl ?_
        refine WD_1 rfl (SD_stN (m := ((lo ++ [sl]) : List Sm).length) (off := 0) hte rfl rfl rfl rfl rfl rfl hN' (Nat.zero_add _) hrs (by decide) rfl hobY (fun _ => kx_dropX) fun X9 hN9 => ?_)
        refine dx hte rfl (WD_done rfl (sx hte rfl ?_))
        rw [show (putL (Sm.cells ⟨x.fund, 0, 0⟩) 0 (cellsL (.agg (Sm.add ⟨x.fund, 0, 0⟩ x).cells.toArray))) = (Sm.add ⟨x.fund, 0, 0⟩ x).cells from rfl, hset] at hN9
        refine W_again ⟨k + 1, (lo ++ [sl]) ++ [Sm.add ⟨x.fund, 0, 0⟩ x], _, c', X9⟩ ⟨by dsimp only; omega, by rw [hd2, hd3], by simp at hlen ⊢ <;> omega, Y, hlY, hN9⟩ (by dsimp only; omega) ⟨?_, ?_, trivial⟩ (by repeat first | exact trivial | refine ⟨rfl, ?_⟩) trivial (by repeat first | exact trivial | refine ⟨rfl, ?_⟩) rfl rfl rfl
        · show some (SV.v (.slice _ _ c')) = _
          simp
        · show some (SV.v (.int .i64 _)) = _
          rw [i64_wrap (by omega) (by omega)]; simp
      · have hd3 : sumStep (lo ++ [sl]) x = lo ++ [Sm.add sl x] := by
          unfold sumStep; rw [List.getLast?_concat]; simp only; rw [if_neg (by simpa using hf), List.dropLast_concat]
        rw [hw9 lo _ (by simp at hlen; omega) (by simp)]
        have hset : (scells (lo ++ [sl])).set lo.length (Sm.add sl x).cells = scells (lo ++ [Sm.add sl x]) := by simp [scells]
        refine W_dropX ?_
        refine W_drawX (Xs := Y) [] mo (by kernel_rfl) (by kernel_rfl) rfl hNY.le ?_
        refine dx hte rfl ?_
        refine WD_v (i := 4) rfl rfl (V_at (m := (lo : List Sm).length) hte rfl rfl rfl rfl rfl rfl (by simp)) rfl ?_
        refine dx hte rfl ?_
        refine WD_1 rfl (SD_v rfl (V_loadO (off := 0) (v := .agg (Sm.cells sl).toArray) hte rfl hfX hfc rfl) rfl ?_)
        refine dx hte rfl ?_
        refine WD_1 rfl (SD_callP hNY.le rfl rfl rfl (trial_add Xi sl x) rfl ?_)
        refine dx hte rfl ?_
        refine WD_v (i := 8) rfl rfl (V_at (m := (lo : List Sm).length) hte rfl rfl rfl rfl rfl rfl (by simp)) rfl ?_
        refine dx hte rfl ?_
        refine WD_1 rfl (SD_stN (m := (lo : List Sm).length) (off := 0) hte rfl rfl rfl rfl rfl rfl hNY (Nat.zero_add _) hrs (by decide) rfl hobY (fun _ => kx_dropX) fun X9 hN9 => ?_)
        refine dx hte rfl (WD_done rfl (sx hte rfl ?_))
        rw [show (putL (Sm.cells sl) 0 (cellsL (.agg (Sm.add sl x).cells.toArray))) = (Sm.add sl x).cells from rfl, hset] at hN9
        refine W_again ⟨k + 1, lo ++ [Sm.add sl x], _, c2, X9⟩ ⟨by dsimp only; omega, by rw [hd2, hd3], by simp at hlen ⊢ <;> omega, Y, hlY, hN9⟩ (by dsimp only; omega) ⟨?_, ?_, trivial⟩ (by repeat first | exact trivial | refine ⟨rfl, ?_⟩) trivial (by repeat first | exact trivial | refine ⟨rfl, ?_⟩) rfl rfl rfl
        · show some (SV.v (.slice _ _ c2)) = _
          simp
        · show some (SV.v (.int .i64 _)) = _
          rw [i64_wrap (by omega) (by omega)]; simp
  · simp only [decide_eq_false_iff_not] at hq
    have hk' : k = l.length := by omega
    subst hk'
    rw [List.take_length] at hd
    subst hd
    obtain ⟨Y, hlY, hNY⟩ := hN
    exact W_ret hte rfl ⟨q, c2, rfl, ⟨Y, hN1.le.trans hlY, hNY⟩, by omega⟩
end Go.Fw
/- The walk of trial.Right. -/
namespace Go.Fw
open Go.Proofs
theorem trial_Right (X : Hp) (b : Nat) (y : Int) (s : VS) (h : VM X (pv b) s) (hn : s.was.length + s.chg ≤ 1000000) (hl : (balAll y s.now).length ≤ 1000000) :
    Trip Tryz.prog 12 #[pv b, .int .i64 y] X (Rt fun r X' => Le X X' ∧ r = .bool (trialRight y s.now)) := by
  refine enter (args := [pv b, .int .i64 y]) Tryz.func12 rfl (by decide) rfl fun w0 => ?_
  refine sx hte rfl ?_
  refine W_call rfl rfl (trial_Sums X b y s h hn hl) ?_
  rintro r X1 ⟨p, c, rfl, hN1, hsl⟩
  refine ⟨hN1.le.ck.kx, _, rfl, sx hte rfl ?_⟩
  unfold trialRight
  generalize sumsOf (balAll y s.now) = l at hN1 hsl ⊢
  refine W_for (ι := AI) (fun i => i.k ≤ l.length ∧ (l.take i.k).all (fun s => s.debits == s.credits) = true) (fun i => l.length - i.k) [13]
    (fun i => [(13, .v (.int .i64 i.k))]) [] (fun _ => []) (fun _ => X1) ⟨0⟩ ⟨by simp, by simp⟩
    ⟨rfl, trivial⟩ trivial rfl rfl rfl fun i hi => ?_
  obtain ⟨k⟩ := i
  obtain ⟨hk, hd⟩ := hi
  simp only at hk hd ⊢
  refine sx hte rfl ?_
  refine W_if rfl (fun hc => sx hte rfl ?_) (fun hc => sx hte rfl ?_)
  · simp only [decide_eq_true_eq] at hc
    have hk' : k < l.length := by omega
    have hrow : (scells l)[k]? = some l[k].cells := by simp [scells, hk']
    refine W_idx (m := k) hte rfl rfl rfl rfl rfl hN1.arr rfl hk' hrow rfl fun bb o => ?_
    refine sx hte rfl ?_
    have ht : (l.take (k + 1)).all (fun s => s.debits == s.credits) = (l[k].debits == l[k].credits) := by
      rw [List.take_succ_eq_append_getElem hk', List.all_append, hd]; simp
    have hall : (l[k].debits == l[k].credits) = false → l.all (fun s => s.debits == s.credits) = false := fun h => by
      rw [← List.take_append_drop (k + 1) l, List.all_append, ht, h]; rfl
    generalize l[k] = x at ht hall ⊢
    refine W_if rfl (fun hq => sx hte rfl ?_) (fun hq => sx hte rfl ?_)
    · rw [hall (by simpa using hq)]
      exact W_ret hte rfl ⟨hN1.le, rfl⟩
    · refine W_again ⟨k + 1⟩ ⟨by dsimp only; omega, by rw [ht]; simpa using hq⟩ (by dsimp only; omega) ⟨?_, trivial⟩ (by repeat first | exact trivial | refine ⟨rfl, ?_⟩) trivial (by repeat first | exact trivial | refine ⟨rfl, ?_⟩) rfl rfl rfl
      show some (SV.v (.int .i64 _)) = _
      rw [i64_wrap (by omega) (by omega)]; simp
  · simp only [decide_eq_false_iff_not] at hc
    have hk' : k = l.length := by omega
    subst hk'
    rw [List.take_length] at hd
    refine W_call rfl rfl (trial_Due X1 b y s (h.le hN1.le) hn hl) ?_
    rintro r X2 ⟨hL2, rfl⟩
    refine ⟨hL2.ck.kx, _, rfl, sx hte rfl ?_⟩
    rw [hd]
    exact W_ret hte rfl ⟨hN1.le.trans hL2, rfl⟩
end Go.Fw
