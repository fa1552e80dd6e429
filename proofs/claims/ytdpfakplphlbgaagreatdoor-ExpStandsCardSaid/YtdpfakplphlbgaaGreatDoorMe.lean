import Derived.Test.YtdpfakplphlbgaaGreatDoorMd
import Derived.Test.YtdpfakplphlbgaaGreatDoorSo
import Derived.Test.YtdpfakplphlbgaaGreatDoorMc
import Derived.Scope
/- The walk of slices.SortFunc at pairs, by the library's contract. -/
namespace Go.Fw
open Go.Proofs Go.RowKit Go.Shelf Go.Sort
/-- What only adds leaves the world grown. -/
theorem grown_of {X X' : Hp} {w w' : World} (hs : Sub X w) (hs' : Sub X' w') (he : Ev X w w') (hl : Le X X') : ∃ q os, w' = Sort.grow (w.drewN q) os := by
  have hpre : ∀ b, b < w.heap.size → w'.heap[b]? = w.heap[b]? := fun b hb => by
    obtain ⟨o, ho⟩ : ∃ o, w.heap[b]? = some o := ⟨_, Array.getElem?_eq_getElem hb⟩
    cases hx : X b with
    | none => rw [ho]; exact he.keep b o ho hx
    | some p =>
      have h1 := hs b p hx
      rw [h1]; exact hs' b p (hl b p hx)
  refine ⟨w'.drawn - w.drawn, w'.heap.extract w.heap.size w'.heap.size, ?_⟩
  have hheap : w'.heap = w.heap ++ w'.heap.extract w.heap.size w'.heap.size := by
    apply Array.ext_getElem?
    intro i
    rw [Array.getElem?_append]
    split
    · rename_i h; exact hpre i h
    · rename_i h
      rw [Array.getElem?_extract]
      split
      · rename_i h2; congr 1; omega
      · rename_i h2
        rw [Array.getElem?_eq_none]
        omega
  have hd := he.drawn
  have h1 := he.os
  have h2 := he.tape
  have h3 := he.output
  cases w' with
  | mk heap tape drawn os output =>
    cases w with
    | mk heap0 tape0 drawn0 os0 output0 =>
      simp only at hheap hd h1 h2 h3
      subst h1 h2 h3
      simp only [Sort.grow, World.drewN, World.mk.injEq, true_and, and_true]
      exact ⟨hheap, by omega⟩
/-- Rows with their pairs. -/
abbrev RP (Y : Hp) := { z : List Value × (Bs × Bs) // PairRow Y z.1 z.2 }
theorem RowsP.zip {Y : Hp} : ∀ {rs : List (List Value)} {ps : Tab}, RowsP Y rs ps → ∃ l : List (RP Y), l.map (fun z => z.1.1) = rs ∧ l.map (fun z => z.1.2) = ps := by
  intro rs
  induction rs with
  | nil => intro ps h; cases ps with
    | nil => exact ⟨[], rfl, rfl⟩
    | cons q ps => exact h.elim
  | cons r rs ih => intro ps h; cases ps with
    | nil => exact h.elim
    | cons q ps =>
      obtain ⟨l, h1, h2⟩ := ih h.2
      exact ⟨⟨(r, q), h.1⟩ :: l, by simp [h1], by simp [h2]⟩
theorem RowsP.of_list {Y : Hp} : ∀ l : List (RP Y), RowsP Y (l.map fun z => z.1.1) (l.map fun z => z.1.2) := by
  intro l
  induction l with
  | nil => trivial
  | cons z l ih => exact ⟨z.2, ih⟩
theorem PairRow.two {Y : Hp} {r : List Value} {q : Bs × Bs} (h : PairRow Y r q) : r.length = 2 := by
  obtain ⟨k, w, rfl, _⟩ := h; rfl
theorem flatK_list {α : Type} [Inhabited α] (enc : α → List Value) (k : Nat) (hk : ∀ x, (enc x).length = k) (hk0 : 0 < k) : ∀ l : List α, (flatK enc k l.toArray).toList = (l.map enc).flatten := by
  intro l
  apply List.ext_getElem?
  intro i
  have hu : ∀ v ∈ l.map enc, v.length = k := fun v hv => by obtain ⟨x, _, rfl⟩ := List.mem_map.1 hv; exact hk x
  have hlen : (l.map enc).flatten.length = l.length * k := by rw [flat_len hu]; simp
  rcases Nat.lt_or_ge i (l.length * k) with h | h
  · have hd : i / k < l.length := by rw [Nat.div_lt_iff_lt_mul hk0]; exact h
    have hm : i % k < k := Nat.mod_lt _ hk0
    have h1 := flat_get (i := i / k) hu (v := enc l[i / k]) (by simp [hd]) (i % k) hm
    rw [show i / k * k + i % k = i by rw [Nat.mul_comm]; exact Nat.div_add_mod i k] at h1
    rw [h1]
    have h2 : i % k < (enc l[i / k]).length := by rw [hk]; exact hm
    simp [flatK, h, hd, h2]
  · rw [List.getElem?_eq_none (by simp [flatK]; exact h), List.getElem?_eq_none (by rw [hlen]; exact h)]
theorem swo_bytes {α : Type} (key : α → Bs) : SWO (ltOf fun x y : α => Lib.compareBytes (key x) (key y)) := by
  have e : ∀ x y : α, ltOf (fun x y : α => Lib.compareBytes (key x) (key y)) x y = bless (key x) (key y) := fun x y => compareBytes_lt _ _
  refine ⟨fun x => by rw [e]; exact bless_irrefl _, fun x y z h1 h2 => by rw [e] at *; exact bless_trans h1 h2, fun x y z h1 h2 => ?_⟩
  rw [e] at *
  cases h3 : bless (key x) (key z) with
  | false => rfl
  | true =>
    cases h4 : bless (key z) (key y) with
    | true => rw [bless_trans h3 h4] at h1; cases h1
    | false =>
      have := bless_total h2 h4
      rw [this, h3] at h1; cases h1
theorem sort_Pair (X Y : Hp) (p : Option Addr) (c : Nat) (rows : List (List Value)) (ps : Tab) (hN : New Y X 124 2 p c rows) (hR : RowsP Y rows ps) (hn : rows.length ≤ 2147483000) :
    Trip Tryz.prog 158 #[.slice p rows.length c, .func (.func 159) #[] #[]] X (Rt fun r X' => r = .tuple #[] ∧ ∃ rows' ps', New Y X' 124 2 p c rows' ∧ RowsP Y rows' ps' ∧ rows'.length = rows.length ∧ ps'.Perm ps ∧ ps'.Pairwise fun a b => bless b.1 a.1 = false) := by
  refine ⟨enters_of Tryz.func158 (by kernel_rfl) rfl, fun w hs => ?_⟩
  by_cases hne : rows = []
  · subst hne
    have hps : ps = [] := by
      have := hR.length
      exact List.eq_nil_of_length_eq_zero this.symm
    subst hps
    have hcon := AnyF.slices_SortFunc_none Tryz.sfPair p c (.func (.func 159) #[] #[]) w
    change Calls Tryz.prog 158 _ _ _ at hcon
    refine hcon.mono ?_
    rintro e w' ⟨rfl, rfl⟩
    exact ⟨X, hs, Ev.refl _ _, Dom.refl _ _, rfl, [], [], hN, trivial, rfl, List.Perm.refl _, List.Pairwise.nil⟩
  obtain ⟨l, hl1, hl2⟩ := hR.zip
  have hN' := hN
  obtain ⟨hu, hN⟩ := hN
  rcases hN with ⟨h, _⟩ | ⟨b, sp, rfl, hb, rfl, hlen, hcap⟩
  · exact absurd h hne
  have hl0 : l ≠ [] := fun e => by subst e; exact hne hl1.symm
  haveI : Inhabited (RP Y) := ⟨l.head hl0⟩
  have hll : l.length = rows.length := by rw [← hl1]; simp
  have hbw := hs b _ (Hp.upd_same _ _ _)
  have hblk : b < w.heap.size := lt_of_heap hbw
  have hsY : Sub Y w := fun i o hi => hs i o (by rw [Hp.upd_ne _ _ (fun e => by rw [e, hb] at hi; cases hi)]; exact hi)
  have hfl : (flatK (fun z : RP Y => z.1.1) 2 l.toArray).toList = rows.flatten := by
    rw [flatK_list _ 2 (fun z => z.2.two) (by decide), hl1]
  have hSub : ∀ (m : Nat) (os : Array Obj) (dk : Array (RP Y)), Sub Y (sortWorldK (fun z : RP Y => z.1.1) 2 w b 0 m dk os) := fun m os dk i o hi => by
    have hib : i ≠ b := fun e => by rw [e, hb] at hi; cases hi
    have h1 := hsY i o hi
    have h2 := lt_of_heap h1
    simp only [sortWorldK, grow, putRowK, putRow, mapBlock]
    rw [Array.getElem?_append, if_pos (by simpa using h2), Array.getElem?_modify, if_neg (Ne.symm hib)]
    exact h1
  have hcmp : CmpLays Tryz.prog 159 #[] (fun z : RP Y => z.1.1) 2 (fun x y : RP Y => Lib.compareBytes x.1.2.1 y.1.2.1) b 0 l.toArray.size w := fun m os dk _ x y => by
    have h1 := (scan_cmp Y x.1.1 y.1.1 x.1.2 y.1.2 x.2 y.2).2 _ (hSub m os dk)
    refine h1.mono ?_
    rintro e w' ⟨X', hs', hev, _, hq⟩
    cases e with
    | returned v =>
      obtain ⟨rfl, rfl⟩ := hq
      obtain ⟨q, os', hw⟩ := grown_of (hSub m os dk) hs' hev (Le.refl _)
      exact ⟨rfl, q, os', hw⟩
    | panicked c => exact hq.elim
    | outgrown => exact hq.elim
  have hH : HoldsK (fun z : RP Y => z.1.1) 2 w b 0 l.toArray := fun j hj => by
    have hj' : j < rows.flatten.length := by rw [← hfl]; simpa using hj
    have e : (flatK (fun z : RP Y => z.1.1) 2 l.toArray)[j]! = rows.flatten[j] := by
      rw [getElem!_pos _ j hj, ← Array.getElem_toList]
      simp only [hfl]
    rw [e]
    refine ⟨?_, by simp [World.frozen?, hbw]⟩
    simp only [World.cell?, hbw]
    rw [if_neg (by simp), Nat.zero_add, List.getElem?_toArray, List.getElem?_append_left hj', List.getElem?_eq_getElem hj']; rfl
  have hcon := AnyQ.slices_SortFunc Tryz.sfPair 2 Tryz.isAgg124 Tryz.sizeOf124 (fun z : RP Y => z.1.1) (fun z => z.2.two) (fun z v hv => by
    obtain ⟨k, w, h1, ⟨_, _, rfl, _⟩, ⟨_, _, rfl, _⟩⟩ := z.2
    rw [h1] at hv
    simp at hv
    rcases hv with rfl | rfl <;> rfl) (fun x y : RP Y => Lib.compareBytes x.1.2.1 y.1.2.1) (swo_bytes fun z : RP Y => z.1.2.1) 159 #[] b 0 c l.toArray w (enters_of Tryz.func159 (by kernel_rfl) rfl) hcmp hH hblk (by simp; omega)
  change Calls Tryz.prog 158 _ _ _ at hcon
  rw [show l.toArray.size = rows.length by simpa using hll] at hcon
  refine hcon.mono ?_
  rintro e w' ⟨rfl, d', n, os, hp, hsrt, rfl⟩
  obtain ⟨hp1, _, hp3⟩ := hp
  have hdl : d'.toList.length = rows.length := by rw [Array.length_toList, hp1]; simpa using hll
  have hperm : d'.toList.Perm l := by
    have e1 : (d'.extract 0 rows.length).toList = d'.toList := by
      rw [Array.toList_extract, ← hdl]; simp only [List.extract_eq_take_drop, List.drop_zero, Nat.sub_zero, List.take_length]
    have e2 : (l.toArray.extract 0 rows.length).toList = l := by rw [Array.toList_extract, ← hll]; simp [List.extract_eq_take_drop]
    rw [e1, e2] at hp3; exact hp3
  have hF : (flatK (fun z : RP Y => z.1.1) 2 d').toList = (d'.toList.map fun z => z.1.1).flatten := by
    have := flatK_list (fun z : RP Y => z.1.1) 2 (fun z => z.2.two) (by decide) d'.toList
    simpa using this
  have hu' : ∀ v ∈ d'.toList.map (fun z : RP Y => z.1.1), v.length = 2 := fun v hv => by
    obtain ⟨z, _, rfl⟩ := List.mem_map.1 hv; exact z.2.two
  have hFl : (d'.toList.map fun z : RP Y => z.1.1).flatten.length = rows.flatten.length := by rw [flat_len hu', flat_len hu]; simp only [List.length_map, hdl]
  have hput : putCells id 0 (flatK (fun z : RP Y => z.1.1) 2 d') (rows.flatten ++ sp).toArray = ((d'.toList.map fun z => z.1.1).flatten ++ sp).toArray := by
    have hsz : (flatK (fun z : RP Y => z.1.1) 2 d').size = rows.flatten.length := by rw [← Array.length_toList, hF, hFl]
    apply Array.ext_getElem?
    intro i
    simp only [putCells, Array.getElem?_mapIdx, List.getElem?_toArray, Nat.zero_le, true_and, Nat.zero_add, Nat.sub_zero, hsz, id]
    rcases Nat.lt_or_ge i rows.flatten.length with h | h
    · rw [List.getElem?_append_left h, List.getElem?_eq_getElem h, List.getElem?_append_left (by rw [hFl]; exact h)]
      simp only [Option.map_some, if_pos h]
      rw [← hF, Array.getElem?_toList, Array.getElem?_eq_getElem (by rw [hsz]; exact h), getElem!_pos _ i (by rw [hsz]; exact h)]
    · rw [List.getElem?_append_right h, List.getElem?_append_right (by rw [hFl]; exact h), hFl]
      cases sp[i - rows.flatten.length]? with
      | none => rfl
      | some y => simp only [Option.map_some, if_neg (Nat.not_lt.2 h)]
  have hb' : (sortWorldK (fun z : RP Y => z.1.1) 2 w b 0 n d' os).heap[b]? = some (.cells ((d'.toList.map fun z => z.1.1).flatten ++ sp).toArray 124 (0, 0)) := by
    simp only [sortWorldK, grow, putRowK, putRow, mapBlock]
    rw [Array.getElem?_append, if_pos (by simpa using hblk), Array.getElem?_modify, if_pos rfl]
    show Option.map _ w.heap[b]? = _
    rw [hbw]
    simp only [Option.map_some, onCells, hput]
  have hold : ∀ i o, i ≠ b → w.heap[i]? = some o → (sortWorldK (fun z : RP Y => z.1.1) 2 w b 0 n d' os).heap[i]? = some o := fun i o hib h1 => by
    have h2 := lt_of_heap h1
    simp only [sortWorldK, grow, putRowK, putRow, mapBlock]
    rw [Array.getElem?_append, if_pos (by simpa using h2), Array.getElem?_modify, if_neg (Ne.symm hib)]
    exact h1
  refine ⟨Y.upd b (.cells ((d'.toList.map fun z => z.1.1).flatten ++ sp).toArray 124 (0, 0)), fun i o hi => ?_, ⟨rfl, rfl, rfl, Nat.le_add_right _ _, ?_, fun i o h1 h2 => hold i o (fun e => by rw [e, Hp.upd_same] at h2; cases h2) h1⟩, fun i hi => ?_, rfl, d'.toList.map (fun z => z.1.1), d'.toList.map (fun z => z.1.2), ⟨hu', .inr ⟨b, sp, rfl, hb, rfl, by rw [← hlen]; simp only [List.length_append, hFl], by simp only [List.length_map, hdl]; exact hcap⟩⟩, RowsP.of_list _, by simp only [List.length_map, hdl], ?_, ?_⟩
  · by_cases e : i = b
    · subst e; rw [Hp.upd_same] at hi; rw [← hi]; exact hb'
    · rw [Hp.upd_ne _ _ e] at hi; exact hold i o e (hsY i o hi)
  · simp [sortWorldK, grow, putRowK, putRow, mapBlock]
  · left
    by_cases e : i = b
    · subst e; rw [Hp.upd_same]; simp
    · rw [Hp.upd_ne _ _ e] at hi ⊢; exact hi
  · rw [← hl2]; exact hperm.map _
  · rw [List.pairwise_map, List.pairwise_iff_getElem]
    intro i j hi hj hij
    have := hsrt i j (Nat.zero_le _) hij (by rw [← hdl]; exact hj)
    rw [getElem!_pos d' j (by simpa using hj), getElem!_pos d' i (by simpa using hi)] at this
    rw [← compareBytes_lt]
    simpa [ltOf] using this
end Go.Fw
/- The walk of a view's Scan in memory. -/
namespace Go.Fw
open Go.Proofs
/-- Keys of a table, each once, are no more than its pairs. -/
theorem keys_le : ∀ {ks : List Bs} {t : Tab}, ks.Nodup → (∀ k ∈ ks, (getT k t).isSome = true) → ks.length ≤ t.length := by
  intro ks
  induction ks with
  | nil => intro t _ _; simp
  | cons k ks ih =>
    intro t hn h
    have hn' := List.nodup_cons.1 hn
    have h1 : ks.length ≤ (delT k t).length := ih hn'.2 fun j hj => by
      rw [getT_delT, if_neg (fun e => by subst e; exact hn'.1 hj)]
      exact h j (List.mem_cons_of_mem _ hj)
    have h2 : (delT k t).length < t.length := by
      obtain ⟨v, hv⟩ := Option.isSome_iff_exists.1 (h k (by simp))
      have hm := getT_mem hv
      unfold delT
      exact List.length_filter_lt_length_iff_exists.2 ⟨_, hm, by simp⟩
    simp only [List.length_cons]; omega
/-- The pairs of changed keys that are there, and begin so. -/
def chgOf (t : Tab) (pre : Bs) (cs : List Bs) : Tab := (cs.filter fun k => (getT k t).isSome && pre.isPrefixOf k).map fun k => (k, (getT k t).getD [])
theorem chgOf_snoc (t : Tab) (pre : Bs) (cs : List Bs) (k : Bs) : chgOf t pre (cs ++ [k]) = chgOf t pre cs ++ if ((getT k t).isSome && pre.isPrefixOf k) = true then [(k, (getT k t).getD [])] else [] := by
  unfold chgOf
  rw [List.filter_append, List.map_append]
  congr 1
  by_cases h : ((getT k t).isSome && pre.isPrefixOf k) = true
  · rw [if_pos h]; simp only [List.filter_cons, h, if_true, List.filter_nil, List.map_cons, List.map_nil]
  · rw [if_neg h]; simp only [List.filter_cons, h, List.filter_nil]; rfl
theorem scan_merge {s : VS} (hok : s.Ok) {pre : Bs} {ks cs : List Bs} (hnd : ks.Nodup) (hks : ∀ k, k ∈ ks ↔ (getT k s.was).isSome = true) (hcs : cs.Nodup) (hch : ∀ k, k ∉ cs → getT k s.now = getT k s.was)
    {f : Bs × Bs → Bool} (hf : ∀ q, f q = true ↔ q.1 ∉ cs) {ps : Tab} (hp : ps.Perm ((pairsOf s.was pre ks).filter f ++ chgOf s.now pre cs)) (hs : ps.Pairwise fun a b => bless b.1 a.1 = false) : ps = scanT pre s.now := by
  have hk1 : ((pairsOf s.was pre ks).filter f).map (·.1) = (ks.filter fun k => pre.isPrefixOf k).filter fun k => f (k, (getT k s.was).getD []) := by
    unfold pairsOf
    rw [List.filter_map, List.map_map]
    conv => rhs; rw [← List.map_id ((ks.filter fun k => pre.isPrefixOf k).filter fun k => f (k, (getT k s.was).getD []))]
    rfl
  have hk2 : (chgOf s.now pre cs).map (·.1) = cs.filter fun k => (getT k s.now).isSome && pre.isPrefixOf k := by
    unfold chgOf
    rw [List.map_map]
    conv => rhs; rw [← List.map_id (cs.filter fun k => (getT k s.now).isSome && pre.isPrefixOf k)]
    rfl
  have hnod : (ps.map (·.1)).Nodup := by
    rw [(hp.map (·.1)).nodup_iff, List.map_append, hk1, hk2, List.nodup_append]
    refine ⟨(hnd.filter _).filter _, hcs.filter _, fun a ha b hb e => ?_⟩
    subst e
    have h1 := (List.mem_filter.1 ha).2
    exact (hf _).1 h1 (List.mem_filter.1 hb).1
  have hsorted : Sorted ps := by
    unfold Sorted
    have h2 : ps.Pairwise fun a b => a.1 ≠ b.1 := by
      have := hnod; unfold List.Nodup at this; rwa [List.pairwise_map] at this
    refine (hs.and h2).imp fun {a b} h => ?_
    cases e : bless a.1 b.1 with
    | true => rfl
    | false => exact absurd (bless_total e h.1) h.2
  refine Sorted.eq hsorted (Sorted.filter hok.now) fun x => ?_
  obtain ⟨k, v⟩ := x
  rw [hp.mem_iff, List.mem_append]
  have hnow : (k, v) ∈ scanT pre s.now ↔ pre.isPrefixOf k = true ∧ getT k s.now = some v := by
    unfold scanT
    rw [List.mem_filter]
    exact ⟨fun h => ⟨h.2, getT_of_mem hok.now h.1⟩, fun h => ⟨getT_mem h.2, h.1⟩⟩
  rw [hnow]
  constructor
  · rintro (h | h)
    · obtain ⟨h1, h2⟩ := List.mem_filter.1 h
      obtain ⟨j, hj, e⟩ := List.mem_map.1 h1
      obtain ⟨hj1, hj2⟩ := List.mem_filter.1 hj
      injection e with e1 e2
      subst e1
      have h3 := (hf _).1 h2
      refine ⟨hj2, ?_⟩
      rw [hch _ h3]
      obtain ⟨d, hd⟩ := Option.isSome_iff_exists.1 ((hks _).1 hj1)
      rw [hd] at e2 ⊢
      simpa using e2
    · obtain ⟨j, hj, e⟩ := List.mem_map.1 h
      obtain ⟨hj1, hj2⟩ := List.mem_filter.1 hj
      injection e with e1 e2
      subst e1
      rw [Bool.and_eq_true] at hj2
      refine ⟨hj2.2, ?_⟩
      obtain ⟨d, hd⟩ := Option.isSome_iff_exists.1 hj2.1
      rw [hd] at e2 ⊢
      simpa using e2
  · rintro ⟨h1, h2⟩
    by_cases hc : k ∈ cs
    · right
      refine List.mem_map.2 ⟨k, List.mem_filter.2 ⟨hc, by rw [h2, h1]; rfl⟩, by rw [h2]; rfl⟩
    · left
      have h3 := hch k hc
      rw [h2] at h3
      refine List.mem_filter.2 ⟨List.mem_map.2 ⟨k, List.mem_filter.2 ⟨(hks k).2 (by rw [← h3]; rfl), h1⟩, by rw [← h3]; rfl⟩, (hf _).2 hc⟩
theorem view_Scan (X : Hp) (v kv : Value) (s : VS) (pre : Bs) (h : VM X v s) (hk : Bytes X kv pre) (hn : s.was.length + s.chg ≤ 1073741824) :
    Trip Tryz.prog 100 #[v, kv] X (Rt fun r X' => ∃ p c rows, r = .slice p rows.length c ∧ Nw X X' 124 2 p c rows ∧ RowsP X' rows (scanT pre s.now) ∧ rows.length ≤ s.was.length + s.chg) := by
  have h' := h
  have hk' := hk
  obtain ⟨b, rc, rm, kc, km, rfl, hb, hrc, hrm, hne, hm, hcg, hn1, hn2, hok⟩ := h
  obtain ⟨a, c, rfl, hA, hc⟩ := hk
  refine enter (args := [.pointer (some ⟨b, 0, none⟩), .slice a pre.length c]) Tryz.func100 rfl (by decide) rfl fun w0 => ?_
  refine sx hte rfl ?_
  refine W_callP rfl rfl (view_ready X _ s h') rfl ?_
  refine sx hte rfl ?_
  refine W_guard_y rfl rfl rfl (W_ung 14 rfl rfl ?_)
  have hfull : ∀ j, j < [Value.map (some rc), .pointer none, .map (some rm), .int .i64 0].length → (#[Value.map (some rc), .pointer none, .map (some rm), .int .i64 0] : Array Value)[j]? = [Value.map (some rc), .pointer none, .map (some rm), .int .i64 0][j]? := fun j _ => by simp
  refine W_v (V_load hte rfl hb hfull rfl) rfl ?_
  refine sx hte rfl ?_
  refine W_no rfl rfl (sx hte rfl ?_)
  refine W_lay 0 rfl (fun _ => rfl) rfl fun cb hcb => ?_
  have hL1 : Le X (X.upd cb (.cells (cellsL (.pointer (some ⟨b, 0, none⟩))).toArray 29 (0, 0))) := Le.upd _ hcb
  have hcb1 : (X.upd cb (.cells (cellsL (.pointer (some ⟨b, 0, none⟩))).toArray 29 (0, 0))) cb = some (.cells #[.pointer (some ⟨b, 0, none⟩)] 29 (0, 0)) := Hp.upd_same _ _ _
  generalize X.upd cb (.cells (cellsL (.pointer (some ⟨b, 0, none⟩))).toArray 29 (0, 0)) = X1 at hL1 hcb1 ⊢
  have hsh : ∀ k v, getK k kc = some v → ∃ a n c g, v = .agg #[.slice a n c, .bool g] := fun k v e => by
    have h1 := hcg k.data.toList
    rw [ba_mk, e] at h1
    obtain ⟨w, g, h2, h3⟩ := h1
    cases g with
    | true => obtain ⟨_, rfl⟩ := h3; exact ⟨_, _, _, _, h2⟩
    | false => obtain ⟨d, _, ⟨a, c, rfl, _⟩⟩ := h3; exact ⟨_, _, _, _, h2⟩
  refine W_call rfl rfl (view_base X1 _ _ s pre (h'.le hL1) (hk'.ck hL1.ck) (by omega)) ?_
  rintro r X2 ⟨p, c1, rows, ks, rfl, hN, hR, hnd, hks⟩
  refine ⟨hN.le.ck.kx, _, rfl, ?_⟩
  refine sx hte rfl ?_
  obtain ⟨Y, hY, hN⟩ := hN
  have hRY : RowsP Y rows (pairsOf s.was pre ks) := hR.mono fun v d h => hN.bytes h (by decide)
  have hLY : Le X Y := hL1.trans hY
  have hrl : rows.length ≤ s.was.length := by
    have h1 := hRY.length
    have h2 : (pairsOf s.was pre ks).length ≤ ks.length := by simp only [pairsOf, List.length_map]; exact List.length_filter_le _ _
    have h3 := keys_le hnd fun k hk => (hks k).1 hk
    omega
  refine W_call rfl rfl (del_Pair X2 Y 156 [.pointer (some ⟨cb, 0, none⟩)] (fun q => (getK ⟨q.1.toArray⟩ kc).isSome) p c1 rows _ hN hRY (by omega) (fun X3 h3 row q hq => ?_)) ?_
  · refine (scan_changed X3 b rc rm cb kc row q hq ((hLY.trans h3) _ _ hb) (hrc.le (hLY.trans h3)) hsh ((hY.trans h3) _ _ hcb1)).rt ?_
    rintro r X4 ⟨rfl, rfl⟩
    exact ⟨rfl, Le.refl _⟩
  rintro r X3 ⟨p3, c3, rows3, rfl, hN3, hR3⟩
  refine ⟨fun _ _ _ _ _ hl => (by cases hl), _, rfl, ?_⟩
  refine sx hte rfl ?_
  have hLY3 : Le Y X3 := hN3.le
  refine W_v (V_load (cs := [.pointer (some ⟨b, 0, none⟩)]) hte rfl ((hY.trans hLY3) _ _ hcb1) (fun j _ => by simp) rfl) rfl ?_
  refine sx hte rfl ?_
  refine W_v (V_load hte rfl ((hLY.trans hLY3) _ _ hb) hfull rfl) rfl ?_
  refine sx hte rfl ?_
  refine W_no rfl rfl (sx hte rfl ?_)
  refine W_v (V_load (cs := [.pointer (some ⟨b, 0, none⟩)]) hte rfl ((hY.trans hLY3) _ _ hcb1) (fun j _ => by simp) rfl) rfl ?_
  refine sx hte rfl ?_
  refine W_v (V_load hte rfl ((hLY.trans hLY3) _ _ hb) hfull rfl) rfl ?_
  refine sx hte rfl ?_
  refine W_range hte mtC rfl (hrc.le (hLY.trans hLY3)) fun ib o hib hit => ⟨_, rfl, ?_⟩
  refine sx hte rfl ?_
  have hib0 : Y ib = none := by
    cases e : Y ib with
    | none => rfl
    | some z => rw [hLY3 _ _ e] at hib; cases hib
  have hkcn : (kc.map fun e => e.1.data.toList).Nodup := by
    obtain ⟨es, clock, _, hat⟩ := hrc
    have := hat.keys
    unfold List.Nodup at this ⊢
    rw [List.pairwise_map] at this ⊢
    exact this.imp fun {x y} h e => h (by rw [← ba_mk x.1, e, ba_mk y.1])
  have hkeys : (kc.map (·.1)).Nodup := by
    obtain ⟨es, clock, _, hat⟩ := hrc
    exact hat.keys
  obtain ⟨Yl, hYl, hNl⟩ := hN3.re (Le.upd o hib)
  generalize hbase : (List.filter (fun q : Bs × Bs => !(getK ⟨q.1.toArray⟩ kc).isSome) (pairsOf s.was pre ks)) = base at hR3
  have hbl : base.length ≤ s.was.length := by
    have h1 : base.length ≤ (pairsOf s.was pre ks).length := by rw [← hbase]; exact List.length_filter_le _ _
    have h2 : (pairsOf s.was pre ks).length ≤ ks.length := by simp only [pairsOf, List.length_map]; exact List.length_filter_le _ _
    have h3 := keys_le hnd fun k hk => (hks k).1 hk
    omega
  refine W_for (ι := BS) (fun i => IterX i.X ib rc i.todo none ∧ Nw Y i.X 124 2 i.p i.c i.rows ∧ RowsP i.X i.rows (base ++ chgOf s.now pre i.ks) ∧ (i.ks ++ i.todo.map fun e => e.1.data.toList).Perm (kc.map fun e => e.1.data.toList) ∧ (∀ e ∈ i.todo, e ∈ kc)) (fun i => i.todo.length) [5]
    (fun i => [(5, .v (.slice i.p i.rows.length i.c))]) [] (fun _ => []) BS.X ⟨kc, [], rows3, p3, c3, _⟩ ⟨hit, ⟨Yl, hYl, hNl⟩, ?_, List.Perm.refl _, fun _ h => h⟩
    ⟨rfl, trivial⟩ trivial rfl rfl rfl fun i hi => ?_
  · have : chgOf s.now pre [] = [] := rfl
    simp only [this, List.append_nil]
    exact hR3.mono fun v d h => h.ck (Le.upd o hib).ck
  obtain ⟨todo, cs, rows4, p4, c4, Xi⟩ := i
  obtain ⟨hI, hN4, hR4, hP, hS⟩ := hi
  simp only at hI hN4 hR4 hP hS ⊢
  have hlen : rows4.length ≤ s.was.length + s.chg := by
    have h1 := hR4.length
    have h2 : (chgOf s.now pre cs).length ≤ cs.length := by simp only [chgOf, List.length_map]; exact List.length_filter_le _ _
    have h3 := hP.length_eq
    simp only [List.length_append, List.length_map] at h1 h3
    omega
  refine sx hte rfl ?_
  refine W_next rfl hI (fun h0 => ⟨_, rfl, ?_⟩) (fun t1 e t2 o2 ht hI2 => ⟨_, rfl, ?_⟩)
  · refine sx hte rfl ?_
    refine W_false rfl (sx hte rfl ?_)
    subst h0
    simp only [List.map_nil, List.append_nil] at hP
    obtain ⟨Y4, hY4, hNew⟩ := hN4
    refine W_call rfl rfl (sort_Pair Xi Y4 p4 c4 rows4 _ hNew (hR4.mono fun v d h => hNew.bytes h (by decide)) (by omega)) ?_
    rintro r X' ⟨rfl, rows', ps', hN', hR', hl', hp', hs'⟩
    refine ⟨fun _ _ _ _ _ hl => (by cases hl), _, rfl, ?_⟩
    refine sx hte rfl ?_
    rw [← hl']
    refine W_ret hte rfl ⟨p4, c4, rows', rfl, ⟨Y4, hLY.trans hY4, hN'⟩, ?_, by omega⟩
    have hmem : ∀ k : Bs, k ∈ cs ↔ (getK ⟨k.toArray⟩ kc).isSome = true := fun k => by
      rw [hP.mem_iff, getK_isSome]
      constructor
      · intro h
        obtain ⟨e, he, rfl⟩ := List.mem_map.1 h
        rw [ba_mk]; exact List.mem_map_of_mem he
      · intro h
        obtain ⟨e, he, h5⟩ := List.mem_map.1 h
        exact List.mem_map.2 ⟨e, he, by rw [h5]⟩
    have := scan_merge (ps := ps') (f := fun q : Bs × Bs => !(getK ⟨q.1.toArray⟩ kc).isSome) hok hnd hks (hP.nodup_iff.2 hkcn) (fun k hk => by
      have h1 := hcg k
      rw [hmem] at hk
      cases e : getK ⟨k.toArray⟩ kc with
      | none => rw [e] at h1; exact h1
      | some u => rw [e] at hk; exact absurd rfl hk) (fun q => by rw [hmem]; simp) (pre := pre) (by rw [hbase]; exact hp') hs'
    rw [← this]
    exact hR'.mono fun v d h => h.ck hN'.le.ck
  · obtain ⟨q0, hq0, hq1⟩ := hI.obj
    have hck : CK Xi (Xi.upd ib o2) := ck_map (Le.refl _) (fun cs T fz e => by rw [hq0] at e; exact hq1 _ _ _ (Option.some.inj e)) o2
    have hN2 : Nw Y (Xi.upd ib o2) 124 2 p4 c4 rows4 := hN4.iter hib0 hq0 hq1
    have hR2 := hR4.mono (fun v d h => h.ck hck)
    generalize Xi.upd ib o2 = Xj at hI2 hN2 hR2 ⊢
    have hem : e ∈ kc := hS e (by rw [ht]; simp)
    have hgk : getK e.1 kc = some e.2 := getK_mem hkeys hem
    have hP' : ((cs ++ [e.1.data.toList]) ++ (t1 ++ t2).map fun e => e.1.data.toList).Perm (kc.map fun e => e.1.data.toList) := by
      refine List.Perm.trans ?_ hP
      rw [ht]
      simp only [List.map_append, List.map_cons, List.append_assoc, List.singleton_append]
      refine List.Perm.append_left _ ?_
      exact (List.perm_middle).symm
    have hS' : ∀ z ∈ t1 ++ t2, z ∈ kc := fun z hz => hS z (by
      rw [ht]
      rcases List.mem_append.1 hz with h | h
      · exact List.mem_append.2 (.inl h)
      · exact List.mem_append.2 (.inr (List.mem_cons_of_mem _ h)))
    have hμ : (t1 ++ t2).length < todo.length := by rw [ht]; simp
    have hcgk := hcg e.1.data.toList
    rw [ba_mk, hgk] at hcgk
    obtain ⟨w, g, he2, hg⟩ := hcgk
    obtain ⟨wa, wn, wc, g', he3⟩ := hsh _ _ hgk
    have hwg : w = .slice wa wn wc := by
      rw [he3] at he2; injection he2 with h; injection h with h; injection h with h1 h2; exact h1.symm
    subst hwg
    obtain ⟨ek, ev⟩ := e
    simp only at he2 hg hI2 hP' hgk
    subst he2
    refine sx hte rfl ?_
    refine W_true rfl (sx hte rfl ?_)
    refine W_entry rfl hI2 rfl ?_
    refine sx hte rfl ?_
    cases g with
    | true =>
      simp only [if_true] at hg
      refine W_guard_n rfl rfl rfl rfl ?_
      refine sx hte rfl ?_
      refine W_guard_n rfl rfl rfl rfl ?_
      refine W_pick (s := .v (.bool false)) rfl rfl rfl ?_
      refine sx hte rfl ?_
      refine W_false rfl (sx hte rfl ?_)
      refine W_again ⟨t1 ++ t2, cs ++ [ek.data.toList], rows4, p4, c4, Xj⟩ ⟨hI2.drop, hN2, ?_, hP', hS'⟩ hμ ⟨rfl, trivial⟩ (by repeat first | exact trivial | refine ⟨rfl, ?_⟩) trivial (by repeat first | exact trivial | refine ⟨rfl, ?_⟩) rfl rfl rfl
      rw [chgOf_snoc, hg.1]
      simpa using hR2
    | false =>
      simp only [Bool.false_eq_true, if_false] at hg
      obtain ⟨d, hd, hdv⟩ := hg
      have hdl : d.length ≤ 120 := (hok.get hd).2
      have hwn : wn = d.length := by obtain ⟨_, _, h, _⟩ := hdv; injection h
      subst hwn
      refine W_guard_y rfl rfl rfl (W_ung 42 rfl rfl ?_)
      refine W_s2b hte rfl rfl rfl rfl rfl rfl rfl fun p1 c1 X1 hL1 hA1 hc1 => ⟨_, rfl, ?_⟩
      refine sx hte rfl ?_
      refine W_guard_y rfl rfl rfl (W_ung 44 rfl rfl ?_)
      have hLj : CK X Xj := hLY.ck.trans hN2.le.ck
      refine W_callP rfl rfl (bytes_HasPrefix X1 _ _ ek.data.toList pre ⟨p1, c1, rfl, hA1, hc1⟩ (hk'.ck (hLj.trans hL1.ck))) rfl ?_
      refine W_pick (s := .v (.bool (pre.isPrefixOf ek.data.toList))) rfl rfl rfl ?_
      refine sx hte rfl ?_
      refine W_if rfl (fun hb => sx hte rfl ?_) (fun hb => sx hte rfl ?_)
      · refine W_s2b hte rfl rfl rfl rfl rfl rfl rfl fun p2 c2 X2 hL2 hA2 hc2 => ⟨_, rfl, ?_⟩
        refine sx hte rfl ?_
        have hL12 := hL1.trans hL2
        refine W_call rfl rfl (bytes_Clone X2 _ d (hdv.ck (hLj.trans hL12.ck)) (by omega)) ?_
        rintro r X3 ⟨hL3, va, vc, rfl, hwA, hwc⟩
        refine ⟨hL3.ck.kx, _, rfl, ?_⟩
        refine sx hte rfl ?_
        have hL13 := hL12.trans hL3
        obtain ⟨Y4, hY4, hNY⟩ := hN2.re hL13
        refine W_app (us := [[_, _]]) hte rfl rfl rfl rfl rfl rfl rfl (by decide) hNY rfl (by simp; rfl) rfl (Src.lab rfl rfl rfl) (by simp [one]) (by simp only [List.length_cons, List.length_nil]; omega) fun p' c3 X' (hN' : New _ _ _ 2 _ _ _) => ⟨_, rfl, ?_⟩
        refine sx hte rfl ?_
        have hb3 : ∀ v z, Bytes X3 v z → Bytes X' v z := fun v z h => (hNY.bytes h (by decide)).ck hN'.le.ck
        have hI3 : IterX X' ib rc (t1 ++ t2) none := hI2.drop.le fun i z hz hnc => hN'.le _ _ (hNY.nc (hL13 _ _ hz) hnc)
        have hrow : PairRow X' [.slice p2 ek.data.toList.length c2, .slice va d.length vc] (ek.data.toList, d) :=
          ⟨_, _, rfl, hb3 _ _ ⟨p2, c2, rfl, hA2.ck hL3.ck, hc2⟩, hb3 _ _ ⟨va, vc, rfl, hwA, hwc⟩⟩
        have hR5 : RowsP X' (rows4 ++ [[.slice p2 ek.data.toList.length c2, .slice va d.length vc]]) (base ++ chgOf s.now pre (cs ++ [ek.data.toList])) := by
          rw [chgOf_snoc, hd, hb, ← List.append_assoc]
          simp only [Option.isSome_some, Bool.and_self, if_true, Option.getD_some]
          exact (hR2.mono fun v z h => hb3 _ _ (h.ck hL13.ck)).snoc hrow
        refine W_again ⟨t1 ++ t2, cs ++ [ek.data.toList], _, p', c3, X'⟩ ⟨hI3, Nw.of hY4 hN', hR5, hP', hS'⟩ hμ ⟨by simp; rfl, trivial⟩ (by repeat first | exact trivial | refine ⟨rfl, ?_⟩) trivial (by repeat first | exact trivial | refine ⟨rfl, ?_⟩) rfl rfl rfl
      · refine W_again ⟨t1 ++ t2, cs ++ [ek.data.toList], rows4, p4, c4, X1⟩ ⟨hI2.drop.le fun i z hz _ => hL1 _ _ hz, ?_, ?_, hP', hS'⟩ hμ ⟨rfl, trivial⟩ (by repeat first | exact trivial | refine ⟨rfl, ?_⟩) trivial (by repeat first | exact trivial | refine ⟨rfl, ?_⟩) rfl rfl rfl
        · obtain ⟨Y4, hY4, hNY⟩ := hN2.re hL1
          exact Nw.of hY4 hNY
        · rw [chgOf_snoc, hd, hb]
          simp only [Option.isSome_some, Bool.and_false, Bool.false_eq_true, if_false, List.append_nil]
          exact hR2.mono fun v z h => h.ck hL1.ck
end Go.Fw
/- The walk of slices.Sort at texts. -/
namespace Go.Fw
open Go.Proofs Go.RowKit Go.Shelf Go.Sort
def strs (l : List Bs) : List (List Value) := l.map fun s => [.string ⟨s.toArray⟩]
theorem strs_length (l : List Bs) : (strs l).length = l.length := by simp [strs]
theorem sort_str (X Y : Hp) (p : Option Addr) (c : Nat) (l : List Bs) (hN : New Y X 9 1 p c (strs l)) (hn : l.length ≤ 2147483000) :
    Trip Tryz.prog 130 #[.slice p l.length c] X (Rt fun r X' => r = .tuple #[] ∧ ∃ l', New Y X' 9 1 p c (strs l') ∧ l'.length = l.length ∧ l'.Perm l) := by
  refine ⟨enters_of Tryz.func130 (by kernel_rfl) rfl, fun w hs => ?_⟩
  by_cases hne : l = []
  · subst hne
    have hcon := Any.slices_Sort_string_none Tryz.lays190 p c w
    change Calls Tryz.prog 130 _ _ _ at hcon
    refine hcon.mono ?_
    rintro e w' ⟨rfl, rfl⟩
    exact ⟨X, hs, Ev.refl _ _, Dom.refl _ _, rfl, [], hN, rfl, List.Perm.refl _⟩
  have hN' := hN
  obtain ⟨hu, hN⟩ := hN
  rcases hN with ⟨h, _⟩ | ⟨b, sp, rfl, hb, rfl, hlen, hcap⟩
  · exact absurd (List.map_eq_nil_iff.1 h) hne
  have hbw := hs b _ (Hp.upd_same _ _ _)
  have hblk : b < w.heap.size := lt_of_heap hbw
  have hsY : Sub Y w := fun i o hi => hs i o (by rw [Hp.upd_ne _ _ (fun e => by rw [e, hb] at hi; cases hi)]; exact hi)
  have hfl : ∀ l : List Bs, (strs l).flatten = l.map fun s => .string ⟨s.toArray⟩ := fun l => by
    induction l with
    | nil => rfl
    | cons x l ih => simp only [strs, List.map_cons, List.flatten_cons] at ih ⊢; rw [ih]; rfl
  have hH : Holds encStr w b 0 l.toArray := fun j hj => by
    have hj' : j < l.length := by simpa using hj
    have hj2 : j < (strs l).flatten.length := by rw [hfl]; simpa using hj'
    refine ⟨?_, by simp [World.frozen?, hbw]⟩
    simp only [World.cell?, hbw]
    rw [if_neg (by simp), Nat.zero_add, List.getElem?_toArray, List.getElem?_append_left hj2, hfl, getElem!_pos _ j hj]
    simp [hj']
  have hcon := Any.slices_Sort_string Tryz.lays190 b 0 c l w hH hblk (by omega)
  change Calls Tryz.prog 130 _ _ _ at hcon
  refine hcon.mono ?_
  rintro e w' ⟨rfl, n, os, rfl⟩
  have hperm := List.mergeSort_perm l fun x y => decide (x ≤ y)
  generalize l.mergeSort (fun x y => decide (x ≤ y)) = l' at hperm ⊢
  have hdl : l'.length = l.length := hperm.length_eq
  have hu' : ∀ v ∈ strs l', v.length = 1 := fun v hv => by
    obtain ⟨z, _, rfl⟩ := List.mem_map.1 hv; rfl
  have hFl : (strs l').flatten.length = (strs l).flatten.length := by rw [hfl, hfl]; simp [hdl]
  have hput : putCells encStr 0 l'.toArray ((strs l).flatten ++ sp).toArray = ((strs l').flatten ++ sp).toArray := by
    have hsz : l'.toArray.size = (strs l).flatten.length := by rw [hfl]; simp [hdl]
    apply Array.ext_getElem?
    intro i
    simp only [putCells, Array.getElem?_mapIdx, List.getElem?_toArray, Nat.zero_le, true_and, Nat.zero_add, Nat.sub_zero, hsz]
    rcases Nat.lt_or_ge i (strs l).flatten.length with h | h
    · rw [List.getElem?_append_left h, List.getElem?_eq_getElem h, List.getElem?_append_left (by rw [hFl]; exact h)]
      simp only [Option.map_some, if_pos h]
      have h2 : i < l'.length := by have := h; rw [hfl l] at this; rw [hdl]; simpa using this
      rw [getElem!_pos _ i (by rw [hsz]; exact h), hfl l']
      simp [h2]
    · rw [List.getElem?_append_right h, List.getElem?_append_right (by rw [hFl]; exact h), hFl]
      cases sp[i - (strs l).flatten.length]? with
      | none => rfl
      | some y => simp only [Option.map_some, if_neg (Nat.not_lt.2 h)]
  have hb' : (grow (putRow encStr (Sort.ahead w n) b 0 l'.toArray) os).heap[b]? = some (.cells ((strs l').flatten ++ sp).toArray 9 (0, 0)) := by
    simp only [grow, putRow, mapBlock]
    rw [Array.getElem?_append, if_pos (by simpa [Sort.ahead] using hblk), Array.getElem?_modify, if_pos rfl]
    show Option.map _ w.heap[b]? = _
    rw [hbw]
    simp only [Option.map_some, onCells, hput]
  have hold : ∀ i o, i ≠ b → w.heap[i]? = some o → (grow (putRow encStr (Sort.ahead w n) b 0 l'.toArray) os).heap[i]? = some o := fun i o hib h1 => by
    have h2 := lt_of_heap h1
    simp only [grow, putRow, mapBlock]
    rw [Array.getElem?_append, if_pos (by simpa [Sort.ahead] using h2), Array.getElem?_modify, if_neg (Ne.symm hib)]
    exact h1
  refine ⟨Y.upd b (.cells ((strs l').flatten ++ sp).toArray 9 (0, 0)), fun i o hi => ?_, ⟨rfl, rfl, rfl, Nat.le_add_right _ _, ?_, fun i o h1 h2 => hold i o (fun e => by rw [e, Hp.upd_same] at h2; cases h2) h1⟩, fun i hi => ?_, rfl, l', ⟨hu', .inr ⟨b, sp, rfl, hb, rfl, by rw [← hlen]; simp only [List.length_append, hFl], by rw [strs_length, hdl]; simpa [strs_length] using hcap⟩⟩, hdl, hperm⟩
  · by_cases e : i = b
    · subst e; rw [Hp.upd_same] at hi; rw [← hi]; exact hb'
    · rw [Hp.upd_ne _ _ e] at hi; exact hold i o e (hsY i o hi)
  · simp [grow, putRow, mapBlock, Sort.ahead]
  · left
    by_cases e : i = b
    · subst e; rw [Hp.upd_same]; simp
    · rw [Hp.upd_ne _ _ e] at hi ⊢; exact hi
end Go.Fw
/- The walks of sequence numbers and years. -/
namespace Go.Fw
open Go.Proofs
/-- The part of a heap that is cells. -/
def Hp.cl (X : Hp) : Hp := fun i => match X i with
  | some (.cells a b c) => some (.cells a b c)
  | _ => none
theorem Hp.cl_le (X : Hp) : Le X.cl X := fun i o h => by
  unfold Hp.cl at h
  split at h
  · rename_i a b c e; rw [e]; exact h
  · cases h
theorem Hp.cl_ck {X X' : Hp} (h : CK X X') : Le X.cl X' := fun i o ho => by
  unfold Hp.cl at ho
  split at ho
  · rename_i a b c e
    injection ho with ho; subst ho
    exact h _ _ _ _ e
  · cases ho
theorem VM.ok {X : Hp} {v : Value} {s : VS} (h : VM X v s) : s.Ok := by
  obtain ⟨b, rc, rm, kc, km, rfl, hb, hrc, hrm, hne, hm, hcg, hn1, hn2, hok⟩ := h
  exact hok
/-- A heap value of numbers that name a view and a key. -/
theorem unp1_list {d : Bs} (h : (unpOf d 1).2 = 0) : (unpOf d 1).1 = [num8 d 0] := by
  unfold unpOf at h ⊢
  split
  · rename_i h1; omega
  · split
    · rename_i h1 h2; rw [if_neg h1, if_pos h2] at h; cases h
    · rfl
abbrev pv (b : Nat) : Value := .pointer (some ⟨b, 0, none⟩)
theorem seqn_of (X : Hp) (b : Nat) (n : Int) : Trip Tryz.prog 141 #[pv b, .int .i64 n] X (Rt fun r X' => Le X X' ∧ ∃ kv, r = .agg #[pv b, kv] ∧ Bytes X' kv (keyOf 83 [n])) := by
  refine enter (args := [pv b, .int .i64 n]) Tryz.func141 rfl (by decide) rfl fun w0 => ?_
  refine sx hte rfl ?_
  refine W_layN 1 1 1 (icells [n]) rfl rfl (by simp [icells]) rfl (fun _ => rfl) rfl fun b1 X1 hN => ?_
  refine W_call rfl rfl (keys_Key X1 83 _ [n] 1 hN.arr (Nat.le_refl _) (by simp)) ?_
  rintro r X2 ⟨p, c, rfl, hN2⟩
  refine ⟨hN2.le.ck.kx, _, rfl, ?_⟩
  refine sx hte rfl ?_
  exact W_ret hte rfl ⟨hN.le.trans hN2.le, _, rfl, hN2.bytes⟩
/-- What a counter's key has. -/
theorem seqn_read (X : Hp) (b : Nat) (kv : Value) (s : VS) (k : Bs) (h : VM X (pv b) s) (hk : Bytes X kv k) :
    Trip Tryz.prog 142 #[.agg #[pv b, kv]] X (Rt fun r X' => Le X X' ∧ r = .int .i64 (rdNum k s.now)) := by
  have hk' := hk
  obtain ⟨a, c, rfl, hA, hc⟩ := hk
  refine enter (args := [.agg #[pv b, .slice a k.length c]]) Tryz.func142 rfl (by decide) rfl fun w0 => ?_
  refine sx hte rfl ?_
  refine W_call rfl rfl (view_Get X _ _ s k h hk') ?_
  rintro r X1 ⟨hL, w, rfl, ⟨wa, wc, rfl, hwA, hwc⟩⟩
  refine ⟨hL.ck.kx, _, rfl, ?_⟩
  refine sx hte rfl ?_
  unfold rdNum
  cases hg : getT k s.now with
  | none =>
    refine W_true rfl (sx hte rfl ?_)
    exact W_ret hte rfl ⟨hL, rfl⟩
  | some d =>
    have hb := h.ok.get hg
    rw [hg] at hwA hwc
    simp only [Option.getD_some] at hwA hwc
    refine W_false rfl (sx hte rfl ?_)
    refine W_call rfl rfl (field_Unpack X1 wa d wc 1 hwA hwc (by omega) (by omega)) ?_
    rintro r X2 ⟨q, c, rfl, hN⟩
    refine ⟨hN.le.ck.kx, _, rfl, ?_⟩
    refine sx hte rfl ?_
    simp only
    refine W_if rfl (fun hc => sx hte rfl ?_) (fun hc => sx hte rfl ?_)
    · rw [if_neg (by simpa using hc)]
      exact W_ret hte rfl ⟨hL.trans hN.le, rfl⟩
    · have hu : (unpOf d 1).2 = 0 := by simpa using hc
      rw [if_pos hu]
      have e := unp1_list hu
      rw [e] at hN ⊢
      refine W_idx (m := 0) hte rfl rfl rfl rfl rfl hN.arr rfl (by simp) rfl rfl fun b o => ?_
      refine sx hte rfl ?_
      exact W_ret hte rfl ⟨hL.trans hN.le, rfl⟩
theorem seqn_Next (X : Hp) (b : Nat) (n : Int) (s : VS) (h : VM X (pv b) s) :
    Trip Tryz.prog 85 #[pv b, .int .i64 n] X (Rt fun r X' => r = .tuple #[.int .i64 (seqNext n s).1.1, .int .i64 (seqNext n s).1.2] ∧ CK X X' ∧ VM X' (pv b) (seqNext n s).2) := by
  refine enter (args := [pv b, .int .i64 n]) Tryz.func85 rfl (by decide) rfl fun w0 => ?_
  refine sx hte rfl ?_
  refine W_call rfl rfl (seqn_of X b n) ?_
  rintro r X1 ⟨hL1, kv, rfl, ⟨a, c, rfl, hA, hc⟩⟩
  refine ⟨hL1.ck.kx, _, rfl, ?_⟩
  refine sx hte rfl ?_
  refine W_call rfl rfl (seqn_read X1 b _ s _ (h.le hL1) ⟨a, c, rfl, hA, hc⟩) ?_
  rintro r X2 ⟨hL2, rfl⟩
  refine ⟨hL2.ck.kx, _, rfl, ?_⟩
  refine sx hte rfl ?_
  unfold seqNext
  have hr := rdNum_range (keyOf 83 [n]) s.now
  generalize rdNum (keyOf 83 [n]) s.now = m at *
  refine W_if rfl (fun hc => sx hte rfl ?_) (fun hc => sx hte rfl ?_)
  · rw [if_pos (by simpa using hc)]
    exact W_ret hte rfl ⟨rfl, (hL1.trans hL2).ck, h.le (hL1.trans hL2)⟩
  · have hc' : ¬ (m < 0 ∨ m > 4294967294) := by simpa using hc
    rw [if_neg hc']
    refine W_drawX (Xs := X2.cl) [] mo (by kernel_rfl) (by kernel_rfl) rfl (Hp.cl_le _) ?_
    refine dx hte rfl ?_
    have hw : IntKind.i64.wrap (m + 1) = m + 1 := i64_wrap (by omega) (by omega)
    repeat refine dx hte rfl (WD_1 rfl (SD_ex1 hte rfl rfl rfl rfl (by repeat first | exact trivial | refine ⟨rfl, ?_⟩) ?_))
    refine WD_layN 1 1 1 (icells [IntKind.i64.wrap (m + 1)]) rfl rfl rfl (by simp [icells]) rfl (fun _ => rfl) rfl fun b1 X3 hN => ?_
    refine WD_1 rfl (SD_callL ((Hp.cl_le _).trans hN.le) rfl rfl rfl (field_Pack X3 _ [IntKind.i64.wrap (m + 1)] 1 hN.arr (Nat.le_refl _) (by simp)) ?_)
    rintro r X4 ⟨p, c4, rfl, hN4⟩
    refine ⟨hN4.le, _, rfl, ?_⟩
    refine dx hte rfl ?_
    have hL4 := hN.le.trans hN4.le
    have hLs := hL1.trans (hL2.trans hL4)
    have hT := view_Put X4 _ _ _ s (keyOf 83 [n]) _ (h.le hLs) ⟨a, c, rfl, hA.ck (hL2.trans hL4).ck, by assumption⟩ hN4.bytes (by have := key_le 83 [n]; omega) (by have := field_le [IntKind.i64.wrap (m + 1)]; omega)
    rw [put?_key] at hT
    refine WD_1 rfl (SD_call rfl rfl rfl hT ?_)
    rintro r X5 ⟨rfl, hck, hV⟩
    refine ⟨hck.kx, Hp.cl_ck (hL4.ck.trans hck), _, rfl, ?_⟩
    refine dx hte rfl (WD_done rfl (sx hte rfl ?_))
    refine W_false rfl (sx hte rfl ?_)
    rw [hw] at hV ⊢
    exact W_ret hte rfl ⟨rfl, hLs.ck.trans hck, hV⟩
/-! ## years -/
theorem years_Right (X : Hp) (n : Int) : Trip Tryz.prog 57 #[.int .i64 n] X (Pu (.bool (decide (2000 ≤ n) && decide (n ≤ 2099))) X) := by
  refine enter (args := [.int .i64 n]) Tryz.func57 rfl (by decide) rfl fun w0 => ?_
  refine sx hte rfl ?_
  exact W_ret hte rfl ⟨rfl, rfl⟩
theorem years_key (X : Hp) (b : Nat) (n : Int) : Trip Tryz.prog 111 #[.agg #[pv b, .int .i64 n]] X (Rt fun r X' => Le X X' ∧ Bytes X' r (keyOf 89 [n])) := by
  refine enter (args := [.agg #[pv b, .int .i64 n]]) Tryz.func111 rfl (by decide) rfl fun w0 => ?_
  refine sx hte rfl ?_
  refine W_layN 1 1 1 (icells [n]) rfl rfl (by simp [icells]) rfl (fun _ => rfl) rfl fun b X1 hN => ?_
  refine W_call rfl rfl (keys_Key X1 89 _ [n] 1 hN.arr (Nat.le_refl _) (by simp)) ?_
  rintro r X2 ⟨p, c, rfl, hN2⟩
  refine ⟨hN2.le.ck.kx, _, rfl, ?_⟩
  refine sx hte rfl ?_
  exact W_ret hte rfl ⟨hN.le.trans hN2.le, hN2.bytes⟩
theorem years_state (X : Hp) (b : Nat) (n : Int) (s : VS) (h : VM X (pv b) s) : Trip Tryz.prog 58 #[.agg #[pv b, .int .i64 n]] X (Rt fun r X' => Le X X' ∧ r = .int .i64 (yState n s.now)) := by
  refine enter (args := [.agg #[pv b, .int .i64 n]]) Tryz.func58 rfl (by decide) rfl fun w0 => ?_
  refine sx hte rfl ?_
  refine W_drawL [] mo (by kernel_rfl) (by kernel_rfl) rfl ?_
  refine dx hte rfl ?_
  refine WD_1 rfl (SD_callL (Le.refl _) rfl rfl rfl (years_key X b n) ?_)
  rintro r X1 ⟨hL1, a, c, rfl, hA, hc⟩
  refine ⟨hL1, _, rfl, ?_⟩
  refine dx hte rfl ?_
  refine WD_1 rfl (SD_callL hL1 rfl rfl rfl (view_Get X1 _ _ s _ (h.le hL1) ⟨a, c, rfl, hA, hc⟩) ?_)
  rintro r X2 ⟨hL2, w, rfl, wa, wc, rfl, hwA, hwc⟩
  refine ⟨hL2, _, rfl, ?_⟩
  refine dx hte rfl (WD_done rfl (sx hte rfl ?_))
  have hL := hL1.trans hL2
  unfold yState rdNum
  cases hg : getT (keyOf 89 [n]) s.now with
  | none =>
    rw [hg] at hwA hwc
    simp only [Option.getD_none] at hwA hwc
    refine W_call rfl rfl (field_Unpack X2 wa [] wc 1 hwA hwc (by simp) (by omega)) ?_
    rintro r X3 ⟨q, c3, rfl, hN⟩
    refine ⟨hN.le.ck.kx, _, rfl, ?_⟩
    refine sx hte rfl ?_
    refine W_true rfl (sx hte rfl ?_)
    exact W_ret hte rfl ⟨hL.trans hN.le, rfl⟩
  | some d =>
    have hb := h.ok.get hg
    rw [hg] at hwA hwc
    simp only [Option.getD_some] at hwA hwc ⊢
    refine W_call rfl rfl (field_Unpack X2 wa d wc 1 hwA hwc (by omega) (by omega)) ?_
    rintro r X3 ⟨q, c3, rfl, hN⟩
    refine ⟨hN.le.ck.kx, _, rfl, ?_⟩
    refine sx hte rfl ?_
    have hLe := hL.trans hN.le
    refine W_if rfl (fun hc => sx hte rfl ?_) (fun hc => sx hte rfl ?_)
    · rw [if_neg (show ¬ (unpOf d 1).2 = 0 by simpa using hc)]
      exact W_ret hte rfl ⟨hLe, rfl⟩
    · have hu : (unpOf d 1).2 = 0 := by simpa using hc
      rw [if_pos hu]
      have e := unp1_list hu
      rw [e] at hN ⊢
      generalize num8 d 0 = m at *
      refine W_idx (m := 0) hte rfl rfl rfl rfl rfl hN.arr rfl (by simp) rfl rfl fun b o => ?_
      refine sx hte rfl ?_
      refine W_if rfl (fun h1 => sx hte rfl ?_) (fun h1 => sx hte rfl ?_)
      · refine W_true rfl (sx hte rfl ?_)
        refine W_idx (m := 0) hte rfl rfl rfl rfl rfl hN.arr rfl (by simp) rfl rfl fun b o => ?_
        refine sx hte rfl ?_
        rw [if_pos (.inl (by simpa using h1))]
        exact W_ret hte rfl ⟨hLe, rfl⟩
      · refine W_if rfl (fun h2 => sx hte rfl ?_) (fun h2 => sx hte rfl ?_)
        · refine W_idx (m := 0) hte rfl rfl rfl rfl rfl hN.arr rfl (by simp) rfl rfl fun b o => ?_
          refine sx hte rfl ?_
          rw [if_pos (.inr (by simpa using h2))]
          exact W_ret hte rfl ⟨hLe, rfl⟩
        · rw [if_neg (by simp at h1 h2; omega)]
          exact W_ret hte rfl ⟨hLe, rfl⟩
theorem years_State (X : Hp) (b : Nat) (n : Int) (s : VS) (h : VM X (pv b) s) : Trip Tryz.prog 67 #[pv b, .int .i64 n] X (Rt fun r X' => Le X X' ∧ r = .int .i64 (yState n s.now)) := by
  refine enter (args := [pv b, .int .i64 n]) Tryz.func67 rfl (by decide) rfl fun w0 => ?_
  refine sx hte rfl ?_
  refine W_call rfl rfl (years_state X b n s h) ?_
  rintro r X1 ⟨hL, rfl⟩
  refine ⟨hL.ck.kx, _, rfl, sx hte rfl ?_⟩
  exact W_ret hte rfl ⟨hL, rfl⟩
theorem years_Check (X : Hp) (b : Nat) (n : Int) (s : VS) (h : VM X (pv b) s) : Trip Tryz.prog 28 #[pv b, .int .i64 n] X (Rt fun r X' => Le X X' ∧ r = .int .i64 (yCheck n s.now)) := by
  refine enter (args := [pv b, .int .i64 n]) Tryz.func28 rfl (by decide) rfl fun w0 => ?_
  refine sx hte rfl ?_
  refine W_call rfl rfl (years_State X b n s h) ?_
  rintro r X1 ⟨hL, rfl⟩
  refine ⟨hL.ck.kx, _, rfl, sx hte rfl ?_⟩
  unfold yCheck
  generalize yState n s.now = m
  refine W_if rfl (fun h1 => sx hte rfl ?_) (fun h1 => sx hte rfl ?_)
  · rw [if_pos (by simpa using h1)]
    exact W_ret hte rfl ⟨hL, rfl⟩
  · rw [if_neg (by simpa using h1)]
    refine W_if rfl (fun h2 => sx hte rfl ?_) (fun h2 => sx hte rfl ?_)
    · rw [if_pos (by simpa using h2)]
      exact W_ret hte rfl ⟨hL, rfl⟩
    · rw [if_neg (by simpa using h2)]
      exact W_ret hte rfl ⟨hL, rfl⟩
theorem years_turn (X : Hp) (b : Nat) (n m : Int) (s : VS) (h : VM X (pv b) s) : Trip Tryz.prog 59 #[.agg #[pv b, .int .i64 n], .int .i64 m] X (Rt fun r X' => r = .int .i64 0 ∧ CK X X' ∧ VM X' (pv b) (s.put (keyOf 89 [n]) (fieldOf [m]))) := by
  refine enter (args := [.agg #[pv b, .int .i64 n], .int .i64 m]) Tryz.func59 rfl (by decide) rfl fun w0 => ?_
  refine sx hte rfl ?_
  refine W_drawX (Xs := X.cl) [] mo (by kernel_rfl) (by kernel_rfl) rfl (Hp.cl_le _) ?_
  refine dx hte rfl ?_
  have hK := years_key X b n
  refine WD_2 rfl (SD_callL (Hp.cl_le _) rfl rfl rfl hK ?_) (SD_ex1 hte rfl rfl rfl rfl (by repeat first | exact trivial | refine ⟨rfl, ?_⟩) (WD_1 rfl (SD_callL (Hp.cl_le _) rfl rfl rfl hK ?_)))
  all_goals
    rintro r X1 ⟨hL1, a, c, rfl, hA, hc⟩
    refine ⟨hL1, _, rfl, ?_⟩
    try refine WD_1 rfl (SD_ex1 hte rfl rfl rfl rfl (by repeat first | exact trivial | refine ⟨rfl, ?_⟩) ?_)
    refine WD_layN 1 1 1 (icells [m]) rfl rfl rfl (by simp [icells]) rfl (fun _ => rfl) rfl fun b1 X2 hN => ?_
    refine WD_1 rfl (SD_callL ((Hp.cl_le _).trans (hL1.trans hN.le)) rfl rfl rfl (field_Pack X2 _ [m] 1 hN.arr (Nat.le_refl _) (by simp)) ?_)
    rintro r X3 ⟨p, c3, rfl, hN3⟩
    refine ⟨hN3.le, _, rfl, ?_⟩
    refine dx hte rfl ?_
    have hL3 := hN.le.trans hN3.le
    have hLs := hL1.trans hL3
    have hT := view_Put X3 _ _ _ s (keyOf 89 [n]) _ (h.le hLs) ⟨a, c, rfl, hA.ck hL3.ck, hc⟩ hN3.bytes (by have := key_le 89 [n]; omega) (by have := field_le [m]; omega)
    rw [put?_key] at hT
    refine WD_1 rfl (SD_call rfl rfl rfl hT ?_)
    rintro r X4 ⟨rfl, hck, hV⟩
    refine ⟨hck.kx, Hp.cl_ck (hLs.ck.trans hck), _, rfl, ?_⟩
    refine dx hte rfl (WD_done rfl (sx hte rfl ?_))
    exact W_ret hte rfl ⟨rfl, hLs.ck.trans hck, hV⟩
theorem years_Open (X : Hp) (b : Nat) (n : Int) (s : VS) (h : VM X (pv b) s) : Trip Tryz.prog 24 #[pv b, .int .i64 n] X (Rt fun r X' => r = .int .i64 (yOpen n s).1 ∧ CK X X' ∧ VM X' (pv b) (yOpen n s).2) := by
  refine enter (args := [pv b, .int .i64 n]) Tryz.func24 rfl (by decide) rfl fun w0 => ?_
  refine sx hte rfl ?_
  refine W_callP rfl rfl (years_Right X n) rfl ?_
  refine sx hte rfl ?_
  unfold yOpen
  refine W_if rfl (fun h1 => sx hte rfl ?_) (fun h1 => sx hte rfl ?_)
  · rw [if_pos (by simp at h1; omega)]
    exact W_ret hte rfl ⟨rfl, CK.refl _, h⟩
  rw [if_neg (by simp at h1; omega)]
  refine W_call rfl rfl (years_state X b n s h) ?_
  rintro r X1 ⟨hL, rfl⟩
  refine ⟨hL.ck.kx, _, rfl, sx hte rfl ?_⟩
  refine W_if rfl (fun h2 => sx hte rfl ?_) (fun h2 => sx hte rfl ?_)
  · rw [if_pos (by simpa using h2)]
    exact W_ret hte rfl ⟨rfl, hL.ck, h.le hL⟩
  rw [if_neg (by simpa using h2)]
  refine W_call rfl rfl (years_turn X1 b n 1 s (h.le hL)) ?_
  rintro r X2 ⟨rfl, hck, hV⟩
  refine ⟨hck.kx, _, rfl, sx hte rfl ?_⟩
  exact W_ret hte rfl ⟨rfl, hL.ck.trans hck, hV⟩
end Go.Fw
/- The walks of amounts and of an account: read, write, Get, Add. -/
namespace Go.Fw
open Go.Proofs
theorem amount_Fits (X : Hp) (n : Int) : Trip Tryz.prog 323 #[.int .i64 n] X (Pu (.bool (fits n)) X) := by
  refine enter (args := [.int .i64 n]) Tryz.func323 rfl (by decide) rfl fun w0 => ?_
  refine sx hte rfl ?_
  exact W_ret hte rfl ⟨rfl, rfl⟩
theorem amount_Add (X : Hp) (a b : Int) : Trip Tryz.prog 279 #[.int .i64 a, .int .i64 b] X (Pu (.tuple #[.int .i64 (amtAdd a b).1, .int .i64 (amtAdd a b).2]) X) := by
  refine enter (args := [.int .i64 a, .int .i64 b]) Tryz.func279 rfl (by decide) rfl fun w0 => ?_
  refine sx hte rfl ?_
  refine W_callP rfl rfl (amount_Fits X a) rfl ?_
  refine sx hte rfl ?_
  unfold amtAdd
  refine W_guard rfl rfl (fun hb => ?_) (fun hb => ⟨_, rfl, ?_⟩)
  · refine W_ung 10 rfl hb ?_
    refine W_callP rfl rfl (amount_Fits X b) rfl ?_
    refine sx hte rfl ?_
    refine W_guard rfl rfl (fun hb2 => ?_) (fun hb2 => ⟨_, rfl, ?_⟩)
    · refine W_ung 17 rfl hb2 ?_
      refine W_callP rfl rfl (amount_Fits X _) rfl ?_
      refine sx hte rfl ?_
      have h1 : fits a = true := by simpa using hb
      have h2 : fits b = true := by rw [h1] at hb2; simpa using hb2
      rw [h1, h2]
      refine W_if rfl (fun h3 => sx hte rfl ?_) (fun h3 => sx hte rfl ?_)
      · have h4 : fits (w64 (a + b)) = false := by simpa using h3
        rw [h4]
        exact W_ret hte rfl ⟨rfl, rfl⟩
      · have h4 : fits (w64 (a + b)) = true := by simpa using h3
        rw [h4]
        exact W_ret hte rfl ⟨rfl, rfl⟩
    · refine W_guard_n rfl rfl hb2 rfl ?_
      refine W_pick (s := .v (.bool true)) rfl (by rw [hb2]; rfl) rfl ?_
      refine sx hte rfl ?_
      refine W_true rfl (sx hte rfl ?_)
      have e : (fits a && fits b && fits (w64 (a + b))) = false := by
        cases h1 : fits a <;> cases h2 : fits b <;> simp_all
      rw [e]
      exact W_ret hte rfl ⟨rfl, rfl⟩
  · refine W_guard_n rfl rfl hb rfl ?_
    refine W_pick (s := .v (.bool true)) rfl (by rw [hb]; rfl) rfl ?_
    refine sx hte rfl ?_
    refine W_guard_n rfl rfl rfl rfl ?_
    refine W_guard_n rfl rfl rfl rfl ?_
    refine W_pick (s := .v (.bool true)) rfl rfl rfl ?_
    refine sx hte rfl ?_
    refine W_true rfl (sx hte rfl ?_)
    have h1 : fits a = false := by simpa using hb
    rw [h1]
    exact W_ret hte rfl ⟨rfl, rfl⟩
theorem bal_of (X : Hp) (b : Nat) (p : Option Addr) (l : List Int) (c : Nat) (hA : Arr X 3 1 p (icells l)) (hc : l.length ≤ c) (hl : l.length ≤ 1000) :
    Trip Tryz.prog 55 #[pv b, .slice p l.length c] X (Rt fun r X' => Le X X' ∧ ∃ kv, r = .agg #[pv b, kv] ∧ Bytes X' kv (keyOf 66 l)) := by
  refine enter (args := [pv b, .slice p l.length c]) Tryz.func55 rfl (by decide) rfl fun w0 => ?_
  refine sx hte rfl ?_
  refine W_call rfl rfl (keys_Key X 66 p l c hA hc (by omega)) ?_
  rintro r X2 ⟨p, c, rfl, hN2⟩
  refine ⟨hN2.le.ck.kx, _, rfl, ?_⟩
  refine sx hte rfl ?_
  exact W_ret hte rfl ⟨hN2.le, _, rfl, hN2.bytes⟩
def numberOf (d : Bs) : Int := if (unpOf d 1).2 = 0 then num8 d 0 else 0
theorem bal_number (X : Hp) (a : Option Addr) (d : Bs) (c : Nat) (hA : Arr X 5 1 a (bcells d)) (hc : d.length ≤ c) (hl : d.length ≤ 2147483000) :
    Trip Tryz.prog 110 #[.slice a d.length c] X (Rt fun r X' => Le X X' ∧ r = .tuple #[.int .i64 (numberOf d), .bool (decide ((unpOf d 1).2 = 0))]) := by
  refine enter (args := [.slice a d.length c]) Tryz.func110 rfl (by decide) rfl fun w0 => ?_
  refine sx hte rfl ?_
  refine W_call rfl rfl (field_Unpack X a d c 1 hA hc hl (by omega)) ?_
  rintro r X2 ⟨q, c, rfl, hN⟩
  refine ⟨hN.le.ck.kx, _, rfl, ?_⟩
  refine sx hte rfl ?_
  unfold numberOf
  refine W_if rfl (fun hc => sx hte rfl ?_) (fun hc => sx hte rfl ?_)
  · have hu : ¬ (unpOf d 1).2 = 0 := by simpa using hc
    rw [if_neg hu, decide_eq_false hu]
    exact W_ret hte rfl ⟨hN.le, rfl⟩
  · have hu : (unpOf d 1).2 = 0 := by simpa using hc
    rw [if_pos hu, decide_eq_true hu]
    rw [unp1_list hu] at hN ⊢
    refine W_idx (m := 0) hte rfl rfl rfl rfl rfl hN.arr rfl (by simp) rfl rfl fun b o => ?_
    refine sx hte rfl ?_
    exact W_ret hte rfl ⟨hN.le, rfl⟩
theorem bal_read (X : Hp) (b : Nat) (kv : Value) (s : VS) (k : Bs) (h : VM X (pv b) s) (hk : Bytes X kv k) :
    Trip Tryz.prog 56 #[.agg #[pv b, kv]] X (Rt fun r X' => Le X X' ∧ r = .int .i64 (rdNum k s.now)) := by
  have hk' := hk
  obtain ⟨a, c, rfl, hA, hc⟩ := hk
  refine enter (args := [.agg #[pv b, .slice a k.length c]]) Tryz.func56 rfl (by decide) rfl fun w0 => ?_
  refine sx hte rfl ?_
  refine W_call rfl rfl (view_Get X _ _ s k h hk') ?_
  rintro r X1 ⟨hL, w, rfl, ⟨wa, wc, rfl, hwA, hwc⟩⟩
  refine ⟨hL.ck.kx, _, rfl, ?_⟩
  refine sx hte rfl ?_
  unfold rdNum
  cases hg : getT k s.now with
  | none =>
    refine W_true rfl (sx hte rfl ?_)
    exact W_ret hte rfl ⟨hL, rfl⟩
  | some d =>
    have hb := h.ok.get hg
    rw [hg] at hwA hwc
    simp only [Option.getD_some] at hwA hwc
    refine W_false rfl (sx hte rfl ?_)
    refine W_call rfl rfl (bal_number X1 wa d wc hwA hwc (by omega)) ?_
    rintro r X2 ⟨hL2, rfl⟩
    refine ⟨hL2.ck.kx, _, rfl, ?_⟩
    refine sx hte rfl ?_
    exact W_ret hte rfl ⟨hL.trans hL2, rfl⟩
def accWrite (k : Bs) (n : Int) (s : VS) : VS := if n ≠ 0 then s.put k (fieldOf [n]) else (s.del? k).2
theorem bal_write (X : Hp) (b : Nat) (kv : Value) (n : Int) (s : VS) (t : UInt8) (l : List Int) (h : VM X (pv b) s) (hk : Bytes X kv (keyOf t l)) :
    Trip Tryz.prog 280 #[.agg #[pv b, kv], .int .i64 n] X (Rt fun r X' => r = .int .i64 0 ∧ CK X X' ∧ VM X' (pv b) (accWrite (keyOf t l) n s)) := by
  have hk' := hk
  obtain ⟨a, c, rfl, hA, hc⟩ := hk
  refine enter (args := [.agg #[pv b, .slice a (keyOf t l).length c], .int .i64 n]) Tryz.func280 rfl (by decide) rfl fun w0 => ?_
  refine sx hte rfl ?_
  unfold accWrite
  refine W_if rfl (fun h1 => sx hte rfl ?_) (fun h1 => sx hte rfl ?_)
  · rw [if_pos (by simpa using h1)]
    refine W_drawX (Xs := X.cl) [] mo (by kernel_rfl) (by kernel_rfl) rfl (Hp.cl_le _) ?_
    refine dx hte rfl ?_
    repeat refine dx hte rfl (WD_1 rfl (SD_ex1 hte rfl rfl rfl rfl (by repeat first | exact trivial | refine ⟨rfl, ?_⟩) ?_))
    refine WD_layN 1 1 1 (icells [n]) rfl rfl rfl (by simp [icells]) rfl (fun _ => rfl) rfl fun b1 X2 hN => ?_
    refine WD_1 rfl (SD_callL ((Hp.cl_le _).trans hN.le) rfl rfl rfl (field_Pack X2 _ [n] 1 hN.arr (Nat.le_refl _) (by simp)) ?_)
    rintro r X3 ⟨p, c3, rfl, hN3⟩
    refine ⟨hN3.le, _, rfl, ?_⟩
    refine dx hte rfl ?_
    have hLs := hN.le.trans hN3.le
    have hT := view_Put X3 _ _ _ s (keyOf t l) _ (h.le hLs) (hk'.ck hLs.ck) hN3.bytes (by have := key_le t l; omega) (by have := field_le [n]; omega)
    rw [put?_key] at hT
    refine WD_1 rfl (SD_call rfl rfl rfl hT ?_)
    rintro r X4 ⟨rfl, hck, hV⟩
    refine ⟨hck.kx, Hp.cl_ck (hLs.ck.trans hck), _, rfl, ?_⟩
    refine dx hte rfl (WD_done rfl (sx hte rfl ?_))
    exact W_ret hte rfl ⟨rfl, hLs.ck.trans hck, hV⟩
  · rw [if_neg (by simpa using h1)]
    refine W_call rfl rfl (view_Delete X _ _ s _ h hk') ?_
    rintro r X1 ⟨rfl, hck, hV⟩
    refine ⟨hck.kx, _, rfl, ?_⟩
    refine sx hte rfl ?_
    exact W_ret hte rfl ⟨rfl, hck, hV⟩
theorem bal_Get (X : Hp) (b : Nat) (y f o : Int) (s : VS) (h : VM X (pv b) s) :
    Trip Tryz.prog 21 #[pv b, .int .i64 y, .int .i64 f, .int .i64 o] X (Rt fun r X' => Le X X' ∧ r = .int .i64 (rdNum (balK y f o) s.now)) := by
  refine enter (args := [pv b, .int .i64 y, .int .i64 f, .int .i64 o]) Tryz.func21 rfl (by decide) rfl fun w0 => ?_
  refine sx hte rfl ?_
  refine W_layN 0 1 3 (icells [y, f, o]) rfl rfl (by simp [icells]) rfl (fun _ => rfl) rfl fun b1 X1 hN => ?_
  refine W_call rfl rfl (bal_of X1 b _ [y, f, o] 3 hN.arr (Nat.le_refl _) (by simp)) ?_
  rintro r X2 ⟨hL, kv, rfl, a, c, rfl, hA, hc⟩
  refine ⟨hL.ck.kx, _, rfl, sx hte rfl ?_⟩
  have hL2 := hN.le.trans hL
  refine W_call rfl rfl (bal_read X2 b _ s _ (h.le hL2) ⟨a, c, rfl, hA, hc⟩) ?_
  rintro r X3 ⟨hL3, rfl⟩
  refine ⟨hL3.ck.kx, _, rfl, sx hte rfl ?_⟩
  exact W_ret hte rfl ⟨hL2.trans hL3, rfl⟩
theorem bal_Add (X : Hp) (b : Nat) (y : Int) (l : Line) (s : VS) (h : VM X (pv b) s) :
    Trip Tryz.prog 224 #[pv b, .int .i64 y, .agg l.cells.toArray] X (Rt fun r X' => r = .int .i64 (balAdd y l s).1 ∧ CK X X' ∧ VM X' (pv b) (balAdd y l s).2) := by
  refine enter (args := [pv b, .int .i64 y, .agg l.cells.toArray]) Tryz.func224 rfl (by decide) rfl fun w0 => ?_
  refine sx hte rfl ?_
  refine W_layN 1 1 3 (icells [y, l.fund, l.object]) rfl rfl (by simp [icells]) rfl (fun _ => rfl) rfl fun b1 X1 hN => ?_
  refine W_call rfl rfl (bal_of X1 b _ [y, l.fund, l.object] 3 hN.arr (Nat.le_refl _) (by simp)) ?_
  rintro r X2 ⟨hL, kv, rfl, a, c, rfl, hA, hc⟩
  refine ⟨hL.ck.kx, _, rfl, sx hte rfl ?_⟩
  have hL2 := hN.le.trans hL
  refine W_drawL [] mo (by kernel_rfl) (by kernel_rfl) rfl ?_
  refine dx hte rfl ?_
  have hR := bal_read X2 b _ s _ (h.le hL2) ⟨a, c, rfl, hA, hc⟩
  refine WD_1 rfl (SD_callL (Le.refl _) rfl rfl rfl hR ?_)
  rintro r X3 ⟨hL3, rfl⟩
  refine ⟨hL3, _, rfl, ?_⟩
  refine dx hte rfl ?_
  refine WD_1 rfl (SD_callP hL3 rfl rfl rfl (amount_Add X3 _ l.amount) rfl ?_)
  refine dx hte rfl (WD_done rfl (sx hte rfl ?_))
  have hL' := hL2.trans hL3
  unfold balAdd
  generalize hq : amtAdd (rdNum (balK y l.fund l.object) s.now) l.amount = q
  have hq' : amtAdd (rdNum (keyOf 66 [y, l.fund, l.object]) s.now) l.amount = q := hq
  rw [hq']
  refine W_if rfl (fun h1 => sx hte rfl ?_) (fun h1 => sx hte rfl ?_)
  · rw [if_pos (by simpa using h1)]
    exact W_ret hte rfl ⟨rfl, hL'.ck, h.le hL'⟩
  · rw [if_neg (by simpa using h1)]
    refine W_call rfl rfl (bal_write X3 b _ q.1 s 66 [y, l.fund, l.object] (h.le hL') ⟨a, c, rfl, hA.ck hL3.ck, hc⟩) ?_
    rintro r X4 ⟨rfl, hck, hV⟩
    refine ⟨hck.kx, _, rfl, sx hte rfl ?_⟩
    unfold accWrite at hV
    split
    · rename_i h2
      rw [if_pos h2] at hV
      exact W_ret hte rfl ⟨rfl, hL'.ck.trans hck, hV⟩
    · rename_i h2
      rw [if_neg h2] at hV
      exact W_ret hte rfl ⟨rfl, hL'.ck.trans hck, hV⟩
end Go.Fw
/- The walks of the tree: a node, Get, Put, Path, Used. -/
namespace Go.Fw
open Go.Proofs
section
variable {cx : Cx} {k : List It} {σ : Fm} {H : Own} {nl : Nat} {X : Hp}
/-- A scope without jumps. -/
theorem W_scope {c : Code} (h : W cx (.code c :: k) σ H nl X) : W cx (.code (.scope c) :: k) σ H nl X := by
  intro a w ρ hok
  refine wp_scope_straight ?_
  have e : Exit.noGoto (post cx.B (kont cx.P cx.B k)) = post cx.B (kont cx.P cx.B k) := by
    funext e a w
    cases e <;> try rfl
  rw [e]
  exact h a w ρ hok
end
theorem tree_node (X : Hp) (b : Nat) (y id : Int) (s : VS) (h : VM X (pv b) s) :
    Trip Tryz.prog 54 #[.agg #[pv b, .int .i64 y], .int .i64 id] X (Rt fun r X' => Le X X' ∧ r = .tuple #[.agg ((treeNode y id s.now).getD .zero).cells.toArray, .bool (treeNode y id s.now).isSome]) := by
  refine enter (args := [.agg #[pv b, .int .i64 y], .int .i64 id]) Tryz.func54 rfl (by decide) rfl fun w0 => ?_
  refine sx hte rfl ?_
  refine W_layN 2 1 2 (icells [y, id]) rfl rfl (by simp [icells]) rfl (fun _ => rfl) rfl fun b1 X1 hN => ?_
  refine W_call rfl rfl (keys_Key X1 78 _ [y, id] 2 hN.arr (Nat.le_refl _) (by simp)) ?_
  rintro r X2 ⟨a, c, rfl, hN2⟩
  refine ⟨hN2.le.ck.kx, _, rfl, sx hte rfl ?_⟩
  have hL2 := hN.le.trans hN2.le
  refine W_call rfl rfl (view_Get X2 _ _ s _ (h.le hL2) hN2.bytes) ?_
  rintro r X3 ⟨hL3, w, rfl, hw⟩
  have hL' := hL2.trans hL3
  obtain ⟨wa, wc, rfl, hwA, hwc⟩ := hw
  refine ⟨hL3.ck.kx, _, rfl, sx hte rfl ?_⟩
  unfold treeNode
  cases hg : getT (keyOf 78 [y, id]) s.now with
  | none =>
    refine W_true rfl (sx hte rfl ?_)
    exact W_ret hte rfl ⟨hL', rfl⟩
  | some d =>
    have hb := h.ok.get hg
    rw [hg] at hwA hwc
    simp only [Option.getD_some] at hwA hwc
    refine W_false rfl (sx hte rfl ?_)
    refine W_call rfl rfl (recs_NodeOf X3 _ ⟨keyOf 78 [y, id], d⟩ ⟨_, _, rfl, hN2.bytes.ck hL3.ck, ⟨_, _, rfl, hwA, hwc⟩⟩ (by dsimp only; omega) (by dsimp only; omega)) ?_
    rintro r X4 ⟨hL4, rfl⟩
    refine ⟨hL4.ck.kx, _, rfl, sx hte rfl ?_⟩
    simp only
    have hLe := hL'.trans hL4
    cases nodeOf ⟨keyOf 78 [y, id], d⟩ with
    | none =>
      refine W_true rfl (sx hte rfl ?_)
      exact W_ret hte rfl ⟨hLe, rfl⟩
    | some n =>
      simp only
      refine W_if rfl (fun hc => sx hte rfl ?_) (fun hc => sx hte rfl ?_)
      · rw [if_neg (by simp at hc; omega)]
        exact W_ret hte rfl ⟨hLe, rfl⟩
      · rw [if_pos (by simp at hc; omega)]
        exact W_ret hte rfl ⟨hLe, rfl⟩
theorem tree_Get (X : Hp) (b : Nat) (y id : Int) (s : VS) (h : VM X (pv b) s) :
    Trip Tryz.prog 20 #[pv b, .int .i64 y, .int .i64 id] X (Rt fun r X' => Le X X' ∧ r = .tuple #[.agg ((treeNode y id s.now).getD .zero).cells.toArray, .bool (treeNode y id s.now).isSome]) := by
  refine enter (args := [pv b, .int .i64 y, .int .i64 id]) Tryz.func20 rfl (by decide) rfl fun w0 => ?_
  refine sx hte rfl ?_
  refine W_call rfl rfl (tree_node X b y id s h) ?_
  rintro r X1 ⟨hL, rfl⟩
  refine ⟨hL.ck.kx, _, rfl, sx hte rfl ?_⟩
  exact W_ret hte rfl ⟨hL, rfl⟩
theorem tree_Put (X : Hp) (b : Nat) (n : Node) (s : VS) (h : VM X (pv b) s) :
    Trip Tryz.prog 26 #[pv b, .agg n.cells.toArray] X (Rt fun r X' => r = .int .i64 0 ∧ CK X X' ∧ VM X' (pv b) (treePut n s)) := by
  refine enter (args := [pv b, .agg n.cells.toArray]) Tryz.func26 rfl (by decide) rfl fun w0 => ?_
  refine sx hte rfl ?_
  refine W_call rfl rfl (recs_Node X n) ?_
  rintro r X1 ⟨hL, kv, wv, rfl, ⟨ka, kc, rfl, hkA, hkc⟩, ⟨wa, wc, rfl, hwA, hwc⟩⟩
  refine ⟨hL.ck.kx, _, rfl, sx hte rfl ?_⟩
  have hT := view_Put X1 _ _ _ s n.pair.key n.pair.val (h.le hL) ⟨ka, kc, rfl, hkA, hkc⟩ ⟨wa, wc, rfl, hwA, hwc⟩ (by have := key_le 78 (n.nums.take 2); unfold Node.pair; dsimp only; omega) (by have := field_le (n.nums.drop 2); unfold Node.pair; dsimp only; omega)
  rw [show s.put? n.pair.key n.pair.val = (0, s.put n.pair.key n.pair.val) from put?_key s 78 (n.nums.take 2) (n.nums.drop 2)] at hT
  refine W_call rfl rfl hT ?_
  rintro r X2 ⟨rfl, hck, hV⟩
  refine ⟨hck.kx, _, rfl, sx hte rfl ?_⟩
  exact W_ret hte rfl ⟨rfl, hL.ck.trans hck, hV⟩
theorem tree_Used (X : Hp) (n : Node) : Trip Tryz.prog 221 #[.agg n.cells.toArray] X (Pu (.int .i64 (usedOf n)) X) := by
  refine enter (args := [.agg n.cells.toArray]) Tryz.func221 rfl (by decide) rfl fun w0 => ?_
  refine sx hte rfl ?_
  exact W_ret hte rfl ⟨rfl, rfl⟩
def ncells (l : List Node) : List (List Value) := l.map Node.cells
theorem ncells_length (l : List Node) : (ncells l).length = l.length := by simp [ncells]
structure PI where
  k : Nat
  id : Int
  done : List Node
  p : Option Addr
  c : Nat
  X : Hp
theorem tree_Path (X : Hp) (b : Nat) (y id : Int) (s : VS) (h : VM X (pv b) s) :
    Trip Tryz.prog 125 #[pv b, .int .i64 y, .int .i64 id] X (Rt fun r X' => ∃ p c, r = .slice p (treePath y 8 id s.now).length c ∧ Nw X X' 28 12 p c (ncells (treePath y 8 id s.now))) := by
  generalize hR : treePath y 8 id s.now = R
  refine enter (args := [pv b, .int .i64 y, .int .i64 id]) Tryz.func125 rfl (by decide) rfl fun w0 => ?_
  refine sx hte rfl ?_
  refine W_scope (sx hte rfl ?_)
  refine W_for (ι := PI) (fun i => i.k ≤ 8 ∧ i.done.length ≤ i.k ∧ i.done ++ treePath y (8 - i.k) i.id s.now = R ∧ Nw X i.X 28 12 i.p i.c (ncells i.done)) (fun i => 8 - i.k) [8, 14, 2]
    (fun i => [(8, .v (.slice i.p i.done.length i.c)), (14, .v (.int .i64 i.k)), (2, .v (.int .i64 i.id))]) [] (fun _ => []) PI.X ⟨0, id, [], none, 0, X⟩ ⟨by simp, by simp, hR, Nw.nil _ _ _⟩
    ⟨rfl, rfl, rfl, trivial⟩ trivial rfl rfl rfl fun i hi => ?_
  obtain ⟨k, cid, done, p, c, Xi⟩ := i
  obtain ⟨hk, hdk, hd, hN⟩ := hi
  simp only at hk hdk hd hN ⊢
  refine sx hte rfl ?_
  refine W_if rfl (fun hc => sx hte rfl ?_) (fun hc => sx hte rfl ?_)
  · simp only [decide_eq_true_eq] at hc
    obtain ⟨m, hm⟩ : ∃ m, 8 - k = m + 1 := ⟨7 - k, by omega⟩
    rw [hm] at hd
    simp only [treePath] at hd
    refine W_call rfl rfl (tree_node Xi b y cid s (h.le hN.le)) ?_
    rintro r X1 ⟨hL, rfl⟩
    refine ⟨hL.ck.kx, _, rfl, sx hte rfl ?_⟩
    obtain ⟨Y, hlY, hNY⟩ := hN.re hL
    cases hn : treeNode y cid s.now with
    | none =>
      rw [hn] at hd
      simp only [List.append_nil] at hd
      subst hd
      refine W_true rfl (sx hte rfl ?_)
      exact W_ret hte rfl ⟨p, c, rfl, Y, hlY, hNY⟩
    | some n =>
      rw [hn] at hd
      simp only at hd
      refine W_false rfl (sx hte rfl ?_)
      refine W_app (us := [n.cells]) hte rfl rfl rfl rfl rfl rfl rfl (by decide) hNY (ncells_length _).symm (by simp [Node.cells]; rfl) rfl (Src.lab rfl rfl rfl) (by simp [one, Node.cells]) (by simp only [List.length_cons, List.length_nil]; omega) fun p' c' X' (hN' : New _ _ _ 12 _ _ _) => ⟨_, rfl, ?_⟩
      refine sx hte rfl ?_
      have hN'' : Nw X X' 28 12 p' c' (ncells (done ++ [n])) := ⟨Y, hlY, by simpa [ncells] using hN'⟩
      refine W_if rfl (fun hp => sx hte rfl ?_) (fun hp => sx hte rfl ?_)
      · have hp0 : n.parent = 0 := by simpa using hp
        rw [if_pos hp0] at hd
        rw [← hd]
        exact W_ret hte rfl ⟨p', c', by simp [tup], hN''⟩
      · have hp0 : ¬ n.parent = 0 := by simpa using hp
        rw [if_neg hp0] at hd
        refine W_again ⟨k + 1, n.parent, done ++ [n], p', c', X'⟩ ⟨by dsimp only; omega, by simp; omega, ?_, hN''⟩ (by dsimp only; omega) ⟨?_, ?_, rfl, trivial⟩ (by repeat first | exact trivial | refine ⟨rfl, ?_⟩) trivial (by repeat first | exact trivial | refine ⟨rfl, ?_⟩) rfl rfl rfl
        · rw [show 8 - (k + 1) = m by omega]; simpa using hd
        · show some (SV.v (.slice p' _ c')) = _
          simp
        · show some (SV.v (.int .i64 _)) = _
          rw [i64_wrap (by omega) (by omega)]; simp
  · simp only [decide_eq_false_iff_not] at hc
    have hk' : k = 8 := by omega
    subst hk'
    simp only [Nat.sub_self, treePath, List.append_nil] at hd
    subst hd
    exact W_ret hte rfl ⟨p, c, rfl, hN⟩
end Go.Fw
/- The walks of charges. -/
namespace Go.Fw
open Go.Proofs
theorem ctrl_small (X : Hp) (n : Int) : Trip Tryz.prog 222 #[.int .i64 n] X (Pu (.bool (small n)) X) := by
  refine enter (args := [.int .i64 n]) Tryz.func222 rfl (by decide) rfl fun w0 => ?_
  refine sx hte rfl ?_
  exact W_ret hte rfl ⟨rfl, rfl⟩
theorem ctrl_figure (X : Hp) (n : Int) : Trip Tryz.prog 179 #[.int .i64 n] X (Pu (.bool (figure n)) X) := by
  refine enter (args := [.int .i64 n]) Tryz.func179 rfl (by decide) rfl fun w0 => ?_
  refine sx hte rfl ?_
  exact W_ret hte rfl ⟨rfl, rfl⟩
theorem ctrl_within (X : Hp) (n : Int) : Trip Tryz.prog 177 #[.int .i64 n] X (Pu (.bool (within n)) X) := by
  refine enter (args := [.int .i64 n]) Tryz.func177 rfl (by decide) rfl fun w0 => ?_
  refine sx hte rfl ?_
  exact W_ret hte rfl ⟨rfl, rfl⟩
structure AI where
  k : Nat
theorem ctrl_all (X : Hp) (g : FuncId) (f : Int → Bool) (hf : ∀ n, Trip Tryz.prog g #[.int .i64 n] X (Pu (.bool (f n)) X)) (a : Option Addr) (l : List Int) (c : Nat) (hA : Arr X 3 1 a (icells l)) (hl : l.length ≤ 1000) :
    Trip Tryz.prog 178 #[.func (.func g) #[] #[], .slice a l.length c] X (Pu (.bool (l.all f)) X) := by
  refine enter (args := [.func (.func g) #[] #[], .slice a l.length c]) Tryz.func178 rfl (by decide) rfl fun w0 => ?_
  refine sx hte rfl ?_
  refine W_for (ι := AI) (fun i => i.k ≤ l.length ∧ (l.take i.k).all f = true) (fun i => l.length - i.k) [9]
    (fun i => [(9, .v (.int .i64 i.k))]) [] (fun _ => []) (fun _ => X) ⟨0⟩ ⟨by simp, by simp⟩
    ⟨rfl, trivial⟩ trivial rfl rfl rfl fun i hi => ?_
  obtain ⟨k⟩ := i
  obtain ⟨hk, hd⟩ := hi
  simp only at hk hd ⊢
  refine sx hte rfl ?_
  refine W_if rfl (fun hc => sx hte rfl ?_) (fun hc => sx hte rfl ?_)
  · simp only [decide_eq_true_eq] at hc
    have hk' : k < l.length := by omega
    refine W_idx (m := k) hte rfl rfl rfl rfl rfl hA rfl hk' (icells_get (List.getElem?_eq_getElem hk')) rfl fun b o => ?_
    refine sx hte rfl ?_
    refine W_callP rfl rfl (hf l[k]) rfl ?_
    refine sx hte rfl ?_
    have ht : (l.take (k + 1)).all f = f l[k] := by
      rw [List.take_succ_eq_append_getElem hk', List.all_append, hd]; simp
    refine W_if rfl (fun hq => sx hte rfl ?_) (fun hq => sx hte rfl ?_)
    · have : f l[k] = false := by simpa using hq
      have e : l.all f = false := by
        rw [← List.take_append_drop (k + 1) l, List.all_append, ht, this]; rfl
      rw [e]
      exact W_ret hte rfl ⟨rfl, rfl⟩
    · have : f l[k] = true := by simpa using hq
      refine W_again ⟨k + 1⟩ ⟨by dsimp only; omega, by rw [ht]; exact this⟩ (by dsimp only; omega) ⟨?_, trivial⟩ (by repeat first | exact trivial | refine ⟨rfl, ?_⟩) trivial trivial rfl rfl rfl
      show some (SV.v (.int .i64 _)) = _
      rw [i64_wrap (by omega) (by omega)]; simp
  · simp only [decide_eq_false_iff_not] at hc
    have hk' : k = l.length := by omega
    subst hk'
    rw [List.take_length] at hd
    rw [hd]
    exact W_ret hte rfl ⟨rfl, rfl⟩
def Chg.cells (c : Chg) : List Value := [.int .i64 c.pre, .int .i64 c.enc, .int .i64 c.exp]
theorem ctrl_right (X : Hp) (c : Chg) : Trip Tryz.prog 126 #[.agg c.cells.toArray] X (Rt fun r X' => Le X X' ∧ r = .bool c.right) := by
  refine enter (args := [.agg c.cells.toArray]) Tryz.func126 rfl (by decide) rfl fun w0 => ?_
  refine sx hte rfl ?_
  refine W_layN 1 1 3 (icells [c.pre, c.enc, c.exp]) rfl rfl (by simp [icells]) rfl (fun _ => rfl) rfl fun b1 X1 hN => ?_
  refine W_callP rfl rfl (ctrl_all X1 177 within (ctrl_within X1) _ [c.pre, c.enc, c.exp] 3 hN.arr (by simp)) rfl ?_
  refine sx hte rfl ?_
  exact W_ret hte rfl ⟨hN.le, by simp [Chg.right, tup, Bool.and_assoc]⟩
theorem ctrl_Allows (X : Hp) (n : Node) (more : Int) : Trip Tryz.prog 180 #[.agg n.cells.toArray, .int .i64 more] X (Rt fun r X' => Le X X' ∧ r = .tuple #[.bool (allows n more).1, .bool (allows n more).2]) := by
  refine enter (args := [.agg n.cells.toArray, .int .i64 more]) Tryz.func180 rfl (by decide) rfl fun w0 => ?_
  refine sx hte rfl ?_
  refine W_callP rfl rfl (tree_Used X n) rfl ?_
  refine sx hte rfl ?_
  unfold allows
  generalize usedOf n = u
  refine W_guard rfl rfl (fun hb => ?_) (fun hb => ⟨_, rfl, ?_⟩)
  · refine W_ung 12 rfl hb (W_ung 14 rfl hb ?_)
    refine sx hte rfl ?_
    refine W_guard_y rfl rfl hb ?_
    refine W_layN 1 1 2 (icells [u, n.limit]) rfl rfl (by simp [icells]) rfl (fun _ => rfl) rfl fun b1 X1 hN => ?_
    refine W_callP rfl rfl (ctrl_all X1 222 small (ctrl_small X1) _ [u, n.limit] 2 hN.arr (by simp)) rfl ?_
    refine sx hte rfl ?_
    have e2 : [u, n.limit].all small = (small u && small n.limit) := by simp
    rw [e2]
    have hb' : ¬ more > 1152921504606846976 := by simpa using hb
    refine W_if rfl (fun h1 => sx hte rfl ?_) (fun h1 => sx hte rfl ?_)
    · have h1' : (small u && small n.limit) = false := by rw [hb] at h1; simpa only [Bool.false_or, Bool.not_eq_true'] using h1
      rw [if_pos (.inr h1')]
      exact W_ret hte rfl ⟨hN.le, rfl⟩
    have h1' : ¬ (small u && small n.limit) = false := by intro h; rw [h, hb] at h1; cases h1
    rw [if_neg (by rintro (h | h); exact hb' h; exact h1' h)]
    refine W_if rfl (fun h2 => sx hte rfl ?_) (fun h2 => sx hte rfl ?_)
    · rw [if_pos (by simpa using h2)]
      exact W_ret hte rfl ⟨hN.le, rfl⟩
    rw [if_neg (by simpa using h2)]
    refine W_drawL [] mo (by kernel_rfl) (by kernel_rfl) rfl ?_
    repeat refine dx hte rfl (WD_1 rfl (SD_ex1 hte rfl rfl rfl rfl (by repeat first | exact trivial | refine ⟨rfl, ?_⟩) ?_))
    refine dx hte rfl (WD_done rfl (sx hte rfl ?_))
    exact W_ret hte rfl ⟨hN.le, rfl⟩
  · refine W_guard_n rfl rfl hb rfl ?_
    refine W_guard_n rfl rfl hb rfl ?_
    refine W_pick (s := .v (.bool true)) rfl (by rw [hb]; rfl) rfl ?_
    refine sx hte rfl ?_
    refine W_true rfl (sx hte rfl ?_)
    rw [if_pos (.inl (by simpa using hb))]
    exact W_ret hte rfl ⟨Le.refl _, rfl⟩
theorem ctrl_at (X : Hp) (c : Chg) (n : Node) : Trip Tryz.prog 127 #[.agg c.cells.toArray, .agg n.cells.toArray] X (Rt fun r X' => Le X X' ∧ r = .tuple #[.agg (c.at n).1.cells.toArray, .bool (c.at n).2.1, .int .i64 (c.at n).2.2]) := by
  refine enter (args := [.agg c.cells.toArray, .agg n.cells.toArray]) Tryz.func127 rfl (by decide) rfl fun w0 => ?_
  refine sx hte rfl ?_
  unfold Chg.at
  refine W_layN 3 1 3 (icells [n.pre, n.enc, n.exp]) rfl rfl (by simp [icells]) rfl (fun _ => rfl) rfl fun b1 X1 hN1 => ?_
  refine W_callP rfl rfl (ctrl_all X1 179 figure (ctrl_figure X1) _ [n.pre, n.enc, n.exp] 3 hN1.arr (by simp)) rfl ?_
  refine sx hte rfl ?_
  have e3 : ∀ a b c : Int, [a, b, c].all figure = (figure a && figure b && figure c) := fun a b c => by simp [Bool.and_assoc]
  rw [e3]
  refine W_if rfl (fun h1 => sx hte rfl ?_) (fun h1 => sx hte rfl ?_)
  · rw [if_pos (by simpa only [Bool.not_eq_true'] using h1)]
    exact W_ret hte rfl ⟨hN1.le, rfl⟩
  rw [if_neg (by intro h; rw [h] at h1; cases h1)]
  refine W_layN 5 1 3 (icells [(c.on n).pre, (c.on n).enc, (c.on n).exp]) rfl rfl (by simp [icells]) rfl (fun _ => rfl) rfl fun b2 X2 hN2 => ?_
  refine W_callP rfl rfl (ctrl_all X2 179 figure (ctrl_figure X2) _ [(c.on n).pre, (c.on n).enc, (c.on n).exp] 3 hN2.arr (by simp)) rfl ?_
  refine sx hte rfl ?_
  rw [e3]
  have hL2 := hN1.le.trans hN2.le
  refine W_if rfl (fun h2 => sx hte rfl ?_) (fun h2 => sx hte rfl ?_)
  · rw [if_pos (by simpa only [Bool.not_eq_true'] using h2)]
    exact W_ret hte rfl ⟨hL2, rfl⟩
  rw [if_neg (by intro h; rw [h] at h2; cases h2)]
  refine W_call rfl rfl (ctrl_Allows X2 n _) ?_
  rintro r X3 ⟨hL3, rfl⟩
  refine ⟨hL3.ck.kx, _, rfl, sx hte rfl ?_⟩
  refine W_if rfl (fun h3 => sx hte rfl ?_) (fun h3 => sx hte rfl ?_)
  · rw [if_pos (by simpa using h3)]
    exact W_ret hte rfl ⟨hL2.trans hL3, rfl⟩
  rw [if_neg (by simpa using h3)]
  exact W_ret hte rfl ⟨hL2.trans hL3, rfl⟩
theorem treePath_length (y : Int) (t : Tab) : ∀ (k : Nat) (id : Int), (treePath y k id t).length ≤ k := by
  intro k
  induction k with
  | zero => intro id; simp [treePath]
  | succ k ih =>
    intro id
    unfold treePath
    split
    · simp
    · rename_i n _
      split
      · simp
      · have := ih n.parent; simp; omega
structure CI where
  k : Nat
  w : Bool
  s : VS
  X : Hp
theorem ctrl_Charge (X : Hp) (b : Nat) (y id : Int) (c : Chg) (s : VS) (h : VM X (pv b) s) :
    Trip Tryz.prog 72 #[pv b, .int .i64 y, .int .i64 id, .int .i64 c.pre, .int .i64 c.enc, .int .i64 c.exp] X (Rt fun r X' => r = .tuple #[.bool (charge y id c s).1.1, .int .i64 (charge y id c s).1.2] ∧ CK X X' ∧ VM X' (pv b) (charge y id c s).2) := by
  refine enter (args := [pv b, .int .i64 y, .int .i64 id, .int .i64 c.pre, .int .i64 c.enc, .int .i64 c.exp]) Tryz.func72 rfl (by decide) rfl fun w0 => ?_
  refine sx hte rfl ?_
  refine W_call rfl rfl (tree_Path X b y id s h) ?_
  rintro r X1 ⟨p, cc, rfl, hN⟩
  refine ⟨hN.le.ck.kx, _, rfl, sx hte rfl ?_⟩
  unfold charge
  have hpl := treePath_length y s.now 8 id
  generalize treePath y 8 id s.now = path at hN hpl ⊢
  refine W_if rfl (fun h1 => sx hte rfl ?_) (fun h1 => sx hte rfl ?_)
  · rw [if_pos (by simpa using h1)]
    exact W_ret hte rfl ⟨rfl, hN.le.ck, h.le hN.le⟩
  rw [if_neg (by simpa using h1)]
  refine W_call rfl rfl (ctrl_right X1 c) ?_
  rintro r X2 ⟨hL2, rfl⟩
  refine ⟨hL2.ck.kx, _, rfl, sx hte rfl ?_⟩
  refine W_if rfl (fun h2 => sx hte rfl ?_) (fun h2 => sx hte rfl ?_)
  · rw [if_pos (by simpa using h2)]
    exact W_ret hte rfl ⟨rfl, (hN.le.trans hL2).ck, h.le (hN.le.trans hL2)⟩
  rw [if_neg (by simpa using h2)]
  generalize hR : chLoop c path false s = R
  have hA := hN.arr.ck hL2.ck
  have hL2' := hN.le.trans hL2
  refine W_for (ι := CI) (fun i => i.k ≤ path.length ∧ chLoop c (path.drop i.k) i.w i.s = R ∧ CK X2 i.X ∧ VM i.X (pv b) i.s) (fun i => path.length - i.k) [16, 39]
    (fun i => [(16, .v (.bool i.w)), (39, .v (.int .i64 i.k))]) [] (fun _ => []) CI.X ⟨0, false, s, X2⟩ ⟨by simp, by simpa using hR, CK.refl _, h.le hL2'⟩
    ⟨rfl, rfl, trivial⟩ trivial rfl rfl rfl fun i hi => ?_
  obtain ⟨k, w, si, Xi⟩ := i
  obtain ⟨hk, hd, hc, hV⟩ := hi
  simp only at hk hd hc hV ⊢
  refine sx hte rfl ?_
  refine W_if rfl (fun hq => sx hte rfl ?_) (fun hq => sx hte rfl ?_)
  · simp only [decide_eq_true_eq] at hq
    have hk' : k < path.length := by omega
    have hrow : (ncells path)[k]? = some path[k].cells := by simp [ncells, hk']
    refine W_idx (m := k) hte rfl rfl rfl rfl rfl (hA.ck hc) rfl (by omega) hrow rfl fun b o => ?_
    refine sx hte rfl ?_
    rw [List.drop_eq_getElem_cons hk'] at hd
    generalize path[k] = n at hd ⊢
    simp only [chLoop] at hd
    refine W_call rfl rfl (ctrl_at Xi c n) ?_
    rintro r X3 ⟨hL3, rfl⟩
    refine ⟨hL3.ck.kx, _, rfl, sx hte rfl ?_⟩
    refine W_if rfl (fun h3 => sx hte rfl ?_) (fun h3 => sx hte rfl ?_)
    · rw [if_pos (by simpa using h3)] at hd
      subst hd
      exact W_ret hte rfl ⟨rfl, hL2'.ck.trans (hc.trans hL3.ck), hV.le hL3⟩
    rw [if_neg (by simpa using h3)] at hd
    refine W_call rfl rfl (tree_Put X3 _ (c.at n).1 si (hV.le hL3)) ?_
    rintro r X4 ⟨rfl, hck, hV4⟩
    refine ⟨hck.kx, _, rfl, sx hte rfl ?_⟩
    refine W_false rfl (sx hte rfl ?_)
    refine W_again ⟨k + 1, w || (c.at n).2.1, _, X4⟩ ⟨by dsimp only; omega, hd, hc.trans (hL3.ck.trans hck), hV4⟩ (by dsimp only; omega) ⟨rfl, ?_, trivial⟩ (by repeat first | exact trivial | refine ⟨rfl, ?_⟩) trivial (by repeat first | exact trivial | refine ⟨rfl, ?_⟩) rfl rfl rfl
    show some (SV.v (.int .i64 _)) = _
    rw [i64_wrap (by omega) (by omega)]; simp
  · simp only [decide_eq_false_iff_not] at hq
    have hk' : k = path.length := by omega
    subst hk'
    rw [List.drop_length] at hd
    simp only [chLoop] at hd
    subst hd
    exact W_ret hte rfl ⟨rfl, hL2'.ck.trans hc, hV⟩
end Go.Fw
/- The walks of a document put, and of lines checked. -/
namespace Go.Fw
open Go.Proofs
theorem docs_set (X : Hp) (b : Nat) (v : Value) (s : VS) (t : UInt8) (l m : List Int) (h : VM X (pv b) s) (hp : PairV X v ⟨keyOf t l, fieldOf m⟩) :
    Trip Tryz.prog 86 #[.agg #[pv b], v] X (Rt fun r X' => r = .int .i64 0 ∧ CK X X' ∧ VM X' (pv b) (s.put (keyOf t l) (fieldOf m))) := by
  obtain ⟨kv, wv, rfl, ⟨ka, kc, rfl, hkA, hkc⟩, ⟨wa, wc, rfl, hwA, hwc⟩⟩ := hp
  refine enter (args := [.agg #[pv b], .agg #[.slice ka (keyOf t l).length kc, .slice wa (fieldOf m).length wc]]) Tryz.func86 rfl (by decide) rfl fun w0 => ?_
  refine sx hte rfl ?_
  have hT := view_Put X _ _ _ s (keyOf t l) (fieldOf m) h ⟨ka, kc, rfl, hkA, hkc⟩ ⟨wa, wc, rfl, hwA, hwc⟩ (by have := key_le t l; omega) (by have := field_le m; omega)
  rw [put?_key] at hT
  refine W_call rfl rfl hT ?_
  rintro r X2 ⟨rfl, hck, hV⟩
  refine ⟨hck.kx, _, rfl, sx hte rfl ?_⟩
  exact W_ret hte rfl ⟨rfl, hck, hV⟩
theorem len6_t {n : Nat} (h : (((n : Int) == 0) || decide ((n : Int) > 6)) = true) : n = 0 ∨ n > 6 := by
  rcases Bool.or_eq_true _ _ ▸ h with h | h
  · have := eq_of_beq h; omega
  · have := of_decide_eq_true h; omega
theorem len6_f {n : Nat} (h : (((n : Int) == 0) || decide ((n : Int) > 6)) = false) : ¬ (n = 0 ∨ n > 6) := by
  rw [Bool.or_eq_false_iff] at h
  have h1 := ne_of_beq_false h.1
  have h2 := of_decide_eq_false h.2
  omega
def dcells (l : List DocLine) : List (List Value) := l.map DocLine.cells
theorem dcells_length (l : List DocLine) : (dcells l).length = l.length := by simp [dcells]
structure DI where
  k : Nat
  s : VS
  X : Hp
theorem docs_Put (X : Hp) (b : Nat) (d : Doc) (p : Option Addr) (l : List DocLine) (c : Nat) (s : VS) (h : VM X (pv b) s) (hA : Arr X 47 4 p (dcells l)) :
    Trip Tryz.prog 42 #[pv b, .agg d.cells.toArray, .slice p l.length c] X (Rt fun r X' => r = .tuple #[.int .i64 (docsPut d l s).1.1, .int .i64 (docsPut d l s).1.2] ∧ CK X X' ∧ VM X' (pv b) (docsPut d l s).2) := by
  refine enter (args := [pv b, .agg d.cells.toArray, .slice p l.length c]) Tryz.func42 rfl (by decide) rfl fun w0 => ?_
  refine sx hte rfl ?_
  unfold docsPut
  refine W_if rfl (fun h1 => sx hte rfl ?_) (fun h1 => sx hte rfl ?_)
  · rw [if_pos (len6_t h1)]
    exact W_ret hte rfl ⟨rfl, CK.refl _, h⟩
  rw [if_neg (len6_f h1)]
  have hl6 : l.length ≤ 6 := by have := len6_f h1; omega
  refine W_call rfl rfl (seqn_Next X b 2 s h) ?_
  rintro r X1 ⟨rfl, hck1, hV1⟩
  refine ⟨hck1.kx, _, rfl, sx hte rfl ?_⟩
  generalize seqNext 2 s = q at hV1 ⊢
  obtain ⟨⟨id, e⟩, s1⟩ := q
  simp only at hV1 ⊢
  refine W_if rfl (fun h2 => sx hte rfl ?_) (fun h2 => sx hte rfl ?_)
  · rw [if_pos (by simpa using h2)]
    exact W_ret hte rfl ⟨rfl, hck1, hV1⟩
  rw [if_neg (by simpa using h2)]
  generalize hR : dlPuts id 0 l s1 = R
  have hA1 := hA.ck hck1
  refine W_for (ι := DI) (fun i => i.k ≤ l.length ∧ dlPuts id i.k (l.drop i.k) i.s = R ∧ CK X1 i.X ∧ VM i.X (pv b) i.s) (fun i => l.length - i.k) [35]
    (fun i => [(35, .v (.int .i64 i.k))]) [] (fun _ => []) DI.X ⟨0, s1, X1⟩ ⟨by simp, by simpa using hR, CK.refl _, hV1⟩
    ⟨rfl, trivial⟩ trivial rfl rfl rfl fun i hi => ?_
  obtain ⟨k, si, Xi⟩ := i
  obtain ⟨hk, hd, hc, hV⟩ := hi
  simp only at hk hd hc hV ⊢
  refine sx hte rfl ?_
  refine W_if rfl (fun hq => sx hte rfl ?_) (fun hq => sx hte rfl ?_)
  · simp only [decide_eq_true_eq] at hq
    have hk' : k < l.length := by omega
    have hrow : (dcells l)[k]? = some l[k].cells := by simp [dcells, hk']
    refine W_idx (m := k) hte rfl rfl rfl rfl rfl (hA1.ck hc) rfl (by omega) hrow rfl fun b o => ?_
    refine sx hte rfl ?_
    rw [List.drop_eq_getElem_cons hk'] at hd
    generalize l[k] = x at hd ⊢
    simp only [dlPuts] at hd
    refine W_drawX (Xs := Xi.cl) [] mo (by kernel_rfl) (by kernel_rfl) rfl (Hp.cl_le _) ?_
    refine dx hte rfl ?_
    refine WD_1 rfl (SD_callL (Hp.cl_le _) rfl rfl rfl (recs_DocLine Xi id k x) ?_)
    rintro r X3 ⟨hL3, hp3⟩
    refine ⟨hL3, _, rfl, ?_⟩
    refine dx hte rfl ?_
    refine WD_1 rfl (SD_call rfl rfl rfl (docs_set X3 _ r si 76 _ _ (hV.le hL3) hp3) ?_)
    rintro r4 X4 ⟨rfl, hck4, hV4⟩
    refine ⟨hck4.kx, Hp.cl_ck (hL3.ck.trans hck4), _, rfl, ?_⟩
    refine dx hte rfl (WD_done rfl (sx hte rfl ?_))
    refine W_false rfl (sx hte rfl ?_)
    refine W_again ⟨k + 1, _, X4⟩ ⟨by dsimp only; omega, hd, hc.trans (hL3.ck.trans hck4), hV4⟩ (by dsimp only; omega) ⟨?_, trivial⟩ (by repeat first | exact trivial | refine ⟨rfl, ?_⟩) trivial (by repeat first | exact trivial | refine ⟨rfl, ?_⟩) rfl rfl rfl
    show some (SV.v (.int .i64 _)) = _
    rw [i64_wrap (by omega) (by omega)]; simp
  · simp only [decide_eq_false_iff_not] at hq
    have hk' : k = l.length := by omega
    subst hk'
    rw [List.drop_length] at hd
    simp only [dlPuts] at hd
    subst hd
    refine W_drawX (Xs := Xi.cl) [] mo (by kernel_rfl) (by kernel_rfl) rfl (Hp.cl_le _) ?_
    refine dx hte rfl ?_
    have hT := recs_Doc Xi ({ d with id := id, lines := l.length } : Doc)
    refine WD_1 rfl (SD_callL (Hp.cl_le _) rfl rfl rfl hT ?_)
    rintro r X3 ⟨hL3, hp3⟩
    refine ⟨hL3, _, rfl, ?_⟩
    refine dx hte rfl ?_
    refine WD_1 rfl (SD_call rfl rfl rfl (docs_set X3 _ r si 68 _ _ (hV.le hL3) hp3) ?_)
    rintro r4 X4 ⟨rfl, hck4, hV4⟩
    refine ⟨hck4.kx, Hp.cl_ck (hL3.ck.trans hck4), _, rfl, ?_⟩
    refine dx hte rfl (WD_done rfl (sx hte rfl ?_))
    refine W_false rfl (sx hte rfl ?_)
    exact W_ret hte rfl ⟨rfl, hck1.trans (hc.trans (hL3.ck.trans hck4)), hV4⟩
/-! ## lines checked -/
def lcells (l : List Line) : List (List Value) := l.map Line.cells
theorem lcells_length (l : List Line) : (lcells l).length = l.length := by simp [lcells]
def idxL (f : Line → Bool) : List Line → Int
  | [] => -1
  | x :: r => if f x then 0 else if idxL f r < 0 then -1 else idxL f r + 1
theorem idxL_any (f : Line → Bool) : ∀ l, decide (0 ≤ idxL f l) = l.any f := by
  intro l
  induction l with
  | nil => rfl
  | cons x l ih =>
    rw [List.any_cons, ← ih]
    by_cases hx : f x = true
    · have e : idxL f (x :: l) = 0 := by rw [idxL, if_pos hx]
      simp only [e, hx]; rfl
    · have hx' : f x = false := by simpa using hx
      have e : idxL f (x :: l) = if idxL f l < 0 then -1 else idxL f l + 1 := by rw [idxL, if_neg hx]
      rw [hx', Bool.false_or]
      by_cases h : idxL f l < 0
      · rw [if_pos h] at e
        rw [decide_eq_false (by omega), decide_eq_false (by omega)]
      · rw [if_neg h] at e
        rw [decide_eq_true (by omega), decide_eq_true (by omega)]
theorem idxL_at {f : Line → Bool} : ∀ {ps : List Line} {i : Nat} {p : Line}, (∀ q ∈ ps.take i, f q = false) → ps[i]? = some p → f p = true → idxL f ps = i := by
  intro ps
  induction ps with
  | nil => intro i p _ h; cases h
  | cons q ps ih =>
    intro i p h1 h2 h3
    cases i with
    | zero => obtain rfl := Option.some.inj h2; simp [idxL, h3]
    | succ i =>
      have hq : f q = false := h1 q (by simp)
      have := ih (i := i) (fun r hr => h1 r (by simp [List.take_succ_cons, hr])) (by simpa using h2) h3
      simp only [idxL, hq, Bool.false_eq_true, if_false, this]
      rw [if_neg (by omega)]; simp
theorem idxL_none {f : Line → Bool} : ∀ {ps : List Line}, (∀ q ∈ ps, f q = false) → idxL f ps = -1 := by
  intro ps
  induction ps with
  | nil => intro _; rfl
  | cons q ps ih =>
    intro h
    simp [idxL, h q (by simp), ih (fun r hr => h r (by simp [hr]))]
theorem idx_Line {E : TypeId} (X : Hp) (g : FuncId) (f : Line → Bool) (hf : ∀ x : Line, Trip Tryz.prog g #[.agg x.cells.toArray] X (Pu (.bool (f x)) X)) (a : Option Addr) (l : List Line) (c : Nat) (hA : Arr X E 4 a (lcells l)) (hl : l.length ≤ 2147483000) :
    Trip Tryz.prog 122 #[.slice a l.length c, .func (.func g) #[] #[]] X (Pu (.int .i64 (idxL f l)) X) := by
  refine enter (args := [.slice a l.length c, .func (.func g) #[] #[]]) Tryz.func122 rfl (by decide) rfl fun w0 => ?_
  refine sx hte rfl ?_
  refine W_for (ι := AI) (fun i => i.k ≤ l.length ∧ ∀ q ∈ l.take i.k, f q = false) (fun i => l.length - i.k) [8, 5]
    (fun i => [(8, .v (.int .i64 i.k))]) [] (fun _ => []) (fun _ => X) ⟨0⟩ ⟨by simp, by simp⟩
    ⟨rfl, trivial⟩ trivial rfl rfl rfl fun i hi => ?_
  obtain ⟨k⟩ := i
  obtain ⟨hk, hd⟩ := hi
  simp only at hk hd ⊢
  refine sx hte rfl ?_
  refine W_if rfl (fun hc => sx hte rfl ?_) (fun hc => sx hte rfl ?_)
  · simp only [decide_eq_true_eq] at hc
    have hk' : k < l.length := by omega
    have hrow : (lcells l)[k]? = some l[k].cells := by simp [lcells, hk']
    refine W_idx (m := k) hte rfl rfl rfl rfl rfl hA rfl hk' hrow rfl fun b o => ?_
    refine sx hte rfl ?_
    refine W_callP rfl rfl (hf l[k]) rfl ?_
    refine sx hte rfl ?_
    refine W_if rfl (fun hq => sx hte rfl ?_) (fun hq => sx hte rfl ?_)
    · refine W_ret hte rfl ⟨rfl, ?_⟩
      rw [idxL_at hd (List.getElem?_eq_getElem hk') hq]; rfl
    · refine W_again ⟨k + 1⟩ ⟨by dsimp only; omega, fun q hq2 => ?_⟩ (by dsimp only; omega) ⟨?_, trivial⟩ (by repeat first | exact trivial | refine ⟨rfl, ?_⟩) trivial trivial rfl rfl rfl
      · rw [List.take_succ_eq_append_getElem hk'] at hq2
        rcases List.mem_append.1 hq2 with h | h
        · exact hd q h
        · obtain rfl := List.mem_singleton.1 h; exact hq
      · show some (SV.v (.int .i64 _)) = _
        rw [i64_wrap (by omega) (by omega)]; simp
  · simp only [decide_eq_false_iff_not] at hc
    have hk' : k = l.length := by omega
    subst hk'
    rw [List.take_length] at hd
    refine W_ret hte rfl ⟨rfl, ?_⟩
    rw [idxL_none hd]; rfl
theorem has_Line {E : TypeId} (X : Hp) (g : FuncId) (f : Line → Bool) (hf : ∀ x : Line, Trip Tryz.prog g #[.agg x.cells.toArray] X (Pu (.bool (f x)) X)) (a : Option Addr) (l : List Line) (c : Nat) (hA : Arr X E 4 a (lcells l)) (hl : l.length ≤ 2147483000) :
    Trip Tryz.prog 70 #[.slice a l.length c, .func (.func g) #[] #[]] X (Pu (.bool (l.any f)) X) := by
  refine enter (args := [.slice a l.length c, .func (.func g) #[] #[]]) Tryz.func70 rfl (by decide) rfl fun w0 => ?_
  refine sx hte rfl ?_
  refine W_callP rfl rfl (idx_Line X g f hf a l c hA hl) rfl ?_
  refine sx hte rfl ?_
  refine W_ret hte rfl ⟨rfl, ?_⟩
  rw [← idxL_any]; rfl
theorem amount_Right (X : Hp) (n : Int) : Trip Tryz.prog 69 #[.int .i64 n] X (Pu (.bool (decide (1 ≤ n) && decide (n ≤ 9007199254740992))) X) := by
  refine enter (args := [.int .i64 n]) Tryz.func69 rfl (by decide) rfl fun w0 => ?_
  refine sx hte rfl ?_
  exact W_ret hte rfl ⟨rfl, rfl⟩
theorem pre_wrong (X : Hp) (x : Line) : Trip Tryz.prog 68 #[.agg x.cells.toArray] X (Pu (.bool (!(decide (1 ≤ x.amount) && decide (x.amount ≤ 9007199254740992)))) X) := by
  refine enter (args := [.agg x.cells.toArray]) Tryz.func68 rfl (by decide) rfl fun w0 => ?_
  refine sx hte rfl ?_
  refine W_callP rfl rfl (amount_Right X x.amount) rfl ?_
  refine sx hte rfl ?_
  exact W_ret hte rfl ⟨rfl, rfl⟩
theorem pre_Check {E : TypeId} (X : Hp) (a : Option Addr) (l : List Line) (c : Nat) (hA : Arr X E 4 a (lcells l)) :
    Trip Tryz.prog 29 #[.slice a l.length c] X (Pu (.int .i64 (preCheck l)) X) := by
  refine enter (args := [.slice a l.length c]) Tryz.func29 rfl (by decide) rfl fun w0 => ?_
  refine sx hte rfl ?_
  unfold preCheck
  refine W_guard rfl rfl (fun hb => ?_) (fun hb => ⟨_, rfl, ?_⟩)
  · refine W_ung 13 rfl hb (W_ung 14 rfl hb ?_)
    have hl6 := len6_f hb
    refine W_callP rfl rfl (has_Line X 68 _ (pre_wrong X) a l c hA (by omega)) rfl ?_
    refine W_pick (s := .v (.bool (l.any fun x => !(decide (1 ≤ x.amount) && decide (x.amount ≤ 9007199254740992))))) rfl (by rw [hb]; rfl) rfl ?_
    refine sx hte rfl ?_
    refine W_if rfl (fun h1 => sx hte rfl ?_) (fun h1 => sx hte rfl ?_)
    · rw [if_pos (.inr (.inr h1))]
      exact W_ret hte rfl ⟨rfl, rfl⟩
    · rw [if_neg (by rintro (h | h | h); exact hl6 (.inl h); exact hl6 (.inr h); rw [h] at h1; cases h1)]
      exact W_ret hte rfl ⟨rfl, rfl⟩
  · refine W_pick (s := .v (.bool true)) rfl (by rw [hb]; rfl) rfl ?_
    refine sx hte rfl ?_
    refine W_true rfl (sx hte rfl ?_)
    have hl6 := len6_t hb
    rw [if_pos (by rcases hl6 with h | h; exact .inl h; exact .inr (.inl h))]
    exact W_ret hte rfl ⟨rfl, rfl⟩
end Go.Fw
/- The walks of an entry stood in the journal, and of what is owed. -/
namespace Go.Fw
open Go.Proofs
theorem interf_owed (X : Hp) (x : Line) : Trip Tryz.prog 228 #[.agg x.cells.toArray] X (Rt fun r X' => ∃ p c, r = .slice p (owed x).length c ∧ Nw X X' 45 4 p c (lcells (owed x))) := by
  refine enter (args := [.agg x.cells.toArray]) Tryz.func228 rfl (by decide) rfl fun w0 => ?_
  refine sx hte rfl ?_
  unfold owed
  refine W_if rfl (fun h1 => sx hte rfl ?_) (fun h1 => sx hte rfl ?_)
  · rw [if_pos (by simpa using h1)]
    refine W_layN 1 4 1 [Line.cells ⟨x.fund, 2900, 0, w64 (0 - x.amount)⟩] rfl rfl (by simp [Line.cells]) rfl (fun _ => rfl) rfl fun b1 X1 hN => ?_
    exact W_ret hte rfl ⟨_, _, rfl, X, Le.refl _, hN⟩
  rw [if_neg (by simpa using h1)]
  refine W_if rfl (fun h2 => sx hte rfl ?_) (fun h2 => sx hte rfl ?_)
  · rw [if_pos (by simpa using h2)]
    refine W_layN 1 4 1 [Line.cells ⟨x.fund, 1900, 0, w64 (0 - x.amount)⟩] rfl rfl (by simp [Line.cells]) rfl (fun _ => rfl) rfl fun b1 X1 hN => ?_
    exact W_ret hte rfl ⟨_, _, rfl, X, Le.refl _, hN⟩
  rw [if_neg (by simpa using h2)]
  exact W_ret hte rfl ⟨none, 0, rfl, Nw.nil _ _ _⟩
theorem entry_set (X : Hp) (b : Nat) (v : Value) (s : VS) (t : UInt8) (l m : List Int) (h : VM X (pv b) s) (hp : PairV X v ⟨keyOf t l, fieldOf m⟩) :
    Trip Tryz.prog 182 #[.agg #[pv b], v] X (Rt fun r X' => r = .int .i64 0 ∧ CK X X' ∧ VM X' (pv b) (s.put (keyOf t l) (fieldOf m))) := by
  obtain ⟨kv, wv, rfl, ⟨ka, kc, rfl, hkA, hkc⟩, ⟨wa, wc, rfl, hwA, hwc⟩⟩ := hp
  refine enter (args := [.agg #[pv b], .agg #[.slice ka (keyOf t l).length kc, .slice wa (fieldOf m).length wc]]) Tryz.func182 rfl (by decide) rfl fun w0 => ?_
  refine sx hte rfl ?_
  have hT := view_Put X _ _ _ s (keyOf t l) (fieldOf m) h ⟨ka, kc, rfl, hkA, hkc⟩ ⟨wa, wc, rfl, hwA, hwc⟩ (by have := key_le t l; omega) (by have := field_le m; omega)
  rw [put?_key] at hT
  refine W_call rfl rfl hT ?_
  rintro r X2 ⟨rfl, hck, hV⟩
  refine ⟨hck.kx, _, rfl, sx hte rfl ?_⟩
  exact W_ret hte rfl ⟨rfl, hck, hV⟩
theorem entry_post (X : Hp) (b : Nat) (y id i : Int) (l : Line) (s : VS) (h : VM X (pv b) s) :
    Trip Tryz.prog 181 #[.agg #[pv b], .int .i64 y, .int .i64 id, .int .i64 i, .agg l.cells.toArray] X (Rt fun r X' => r = .int .i64 (ePost y id i l s).1 ∧ CK X X' ∧ VM X' (pv b) (ePost y id i l s).2) := by
  refine enter (args := [.agg #[pv b], .int .i64 y, .int .i64 id, .int .i64 i, .agg l.cells.toArray]) Tryz.func181 rfl (by decide) rfl fun w0 => ?_
  refine sx hte rfl ?_
  refine W_drawX (Xs := X.cl) [] mo (by kernel_rfl) (by kernel_rfl) rfl (Hp.cl_le _) ?_
  refine dx hte rfl ?_
  refine WD_1 rfl (SD_callL (Hp.cl_le _) rfl rfl rfl (recs_Line X id i l) ?_)
  rintro r X3 ⟨hL3, hp3⟩
  refine ⟨hL3, _, rfl, ?_⟩
  refine dx hte rfl ?_
  refine WD_1 rfl (SD_call rfl rfl rfl (entry_set X3 b r s 74 _ _ (h.le hL3) hp3) ?_)
  rintro r4 X4 ⟨rfl, hck4, hV4⟩
  refine ⟨hck4.kx, Hp.cl_ck (hL3.ck.trans hck4), _, rfl, ?_⟩
  refine dx hte rfl (WD_done rfl (sx hte rfl ?_))
  refine W_false rfl (sx hte rfl ?_)
  refine W_call rfl rfl (bal_Add X4 b y l _ hV4) ?_
  rintro r5 X5 ⟨rfl, hck5, hV5⟩
  refine ⟨hck5.kx, _, rfl, sx hte rfl ?_⟩
  exact W_ret hte rfl ⟨rfl, hL3.ck.trans (hck4.trans hck5), hV5⟩
theorem entry_stand (X : Hp) (b : Nat) (e : Entry) (p : Option Addr) (l : List Line) (c : Nat) (s : VS) (h : VM X (pv b) s) (hA : Arr X 45 4 p (lcells l)) (hl : l.length ≤ 1000000) :
    Trip Tryz.prog 128 #[.agg #[pv b], .agg e.cells.toArray, .slice p l.length c] X (Rt fun r X' => r = .tuple #[.int .i64 (stand e l s).1.1, .int .i64 (stand e l s).1.2] ∧ CK X X' ∧ VM X' (pv b) (stand e l s).2) := by
  refine enter (args := [.agg #[pv b], .agg e.cells.toArray, .slice p l.length c]) Tryz.func128 rfl (by decide) rfl fun w0 => ?_
  refine sx hte rfl ?_
  unfold stand
  refine W_call rfl rfl (years_Check X b e.year s h) ?_
  rintro r X0 ⟨hL0, rfl⟩
  refine ⟨hL0.ck.kx, _, rfl, sx hte rfl ?_⟩
  refine W_if rfl (fun h1 => sx hte rfl ?_) (fun h1 => sx hte rfl ?_)
  · rw [if_pos (by simpa using h1)]
    exact W_ret hte rfl ⟨rfl, hL0.ck, h.le hL0⟩
  rw [if_neg (by simpa using h1)]
  refine W_call rfl rfl (seqn_Next X0 b 1 s (h.le hL0)) ?_
  rintro r X1 ⟨rfl, hck1, hV1⟩
  have hck01 := hL0.ck.trans hck1
  refine ⟨hck1.kx, _, rfl, sx hte rfl ?_⟩
  generalize seqNext 1 s = q at hV1 ⊢
  obtain ⟨⟨id, er⟩, s1⟩ := q
  simp only at hV1 ⊢
  refine W_if rfl (fun h2 => sx hte rfl ?_) (fun h2 => sx hte rfl ?_)
  · rw [if_pos (by simpa using h2)]
    exact W_ret hte rfl ⟨rfl, hck01, hV1⟩
  rw [if_neg (by simpa using h2)]
  generalize hR : ePosts e.year id 0 l s1 = R
  have hA1 := hA.ck hck01
  refine W_for (ι := DI) (fun i => i.k ≤ l.length ∧ ePosts e.year id i.k (l.drop i.k) i.s = R ∧ CK X1 i.X ∧ VM i.X (pv b) i.s) (fun i => l.length - i.k) [34]
    (fun i => [(34, .v (.int .i64 i.k))]) [] (fun _ => []) DI.X ⟨0, s1, X1⟩ ⟨by simp, by simpa using hR, CK.refl _, hV1⟩
    ⟨rfl, trivial⟩ trivial rfl rfl rfl fun i hi => ?_
  obtain ⟨k, si, Xi⟩ := i
  obtain ⟨hk, hd, hc, hV⟩ := hi
  simp only at hk hd hc hV ⊢
  refine sx hte rfl ?_
  refine W_if rfl (fun hq => sx hte rfl ?_) (fun hq => sx hte rfl ?_)
  · simp only [decide_eq_true_eq] at hq
    have hk' : k < l.length := by omega
    have hrow : (lcells l)[k]? = some l[k].cells := by simp [lcells, hk']
    refine W_idx (m := k) hte rfl rfl rfl rfl rfl (hA1.ck hc) rfl (by omega) hrow rfl fun b o => ?_
    refine sx hte rfl ?_
    rw [List.drop_eq_getElem_cons hk'] at hd
    generalize l[k] = x at hd ⊢
    simp only [ePosts] at hd
    refine W_call rfl rfl (entry_post Xi _ e.year id k x si hV) ?_
    rintro r X4 ⟨rfl, hck4, hV4⟩
    refine ⟨hck4.kx, _, rfl, sx hte rfl ?_⟩
    refine W_if rfl (fun h3 => sx hte rfl ?_) (fun h3 => sx hte rfl ?_)
    · have h3' : (ePost e.year id k x si).1 ≠ 0 := by simpa using h3
      rw [if_pos h3'] at hd
      subst hd
      rw [if_pos h3']
      exact W_ret hte rfl ⟨rfl, hck01.trans (hc.trans hck4), hV4⟩
    rw [if_neg (by simpa using h3)] at hd
    refine W_again ⟨k + 1, _, X4⟩ ⟨by dsimp only; omega, hd, hc.trans hck4, hV4⟩ (by dsimp only; omega) ⟨?_, trivial⟩ (by repeat first | exact trivial | refine ⟨rfl, ?_⟩) trivial (by repeat first | exact trivial | refine ⟨rfl, ?_⟩) rfl rfl rfl
    show some (SV.v (.int .i64 _)) = _
    rw [i64_wrap (by omega) (by omega)]; simp
  · simp only [decide_eq_false_iff_not] at hq
    have hk' : k = l.length := by omega
    subst hk'
    rw [List.drop_length] at hd
    simp only [ePosts] at hd
    subst hd
    rw [if_neg (by simp)]
    refine W_drawX (Xs := Xi.cl) [] mo (by kernel_rfl) (by kernel_rfl) rfl (Hp.cl_le _) ?_
    refine dx hte rfl ?_
    have hT := recs_Entry Xi ({ e with id := id, lines := l.length, by_ := 0 } : Entry)
    refine WD_1 rfl (SD_callL (Hp.cl_le _) rfl rfl rfl hT ?_)
    rintro r X3 ⟨hL3, hp3⟩
    refine ⟨hL3, _, rfl, ?_⟩
    refine dx hte rfl ?_
    refine WD_1 rfl (SD_call rfl rfl rfl (entry_set X3 _ r si 69 _ _ (hV.le hL3) hp3) ?_)
    rintro r4 X4 ⟨rfl, hck4, hV4⟩
    refine ⟨hck4.kx, Hp.cl_ck (hL3.ck.trans hck4), _, rfl, ?_⟩
    refine dx hte rfl (WD_done rfl (sx hte rfl ?_))
    refine W_false rfl (sx hte rfl ?_)
    exact W_ret hte rfl ⟨rfl, hck01.trans (hc.trans (hL3.ck.trans hck4)), hV4⟩
end Go.Fw
/- The walks of an expenditure's lines and charges. -/
namespace Go.Fw
open Go.Proofs
theorem exp_two (X : Hp) (b : Nat) (y f : Int) (x : DocLine) (s : VS) (h : VM X (pv b) s) :
    Trip Tryz.prog 52 #[.agg #[pv b, .int .i64 y, .int .i64 f], .agg x.cells.toArray] X (Rt fun r X' => ∃ p c, r = .slice p (expTwo y s.now x).length c ∧ Nw X X' 45 4 p c (lcells (expTwo y s.now x))) := by
  refine enter (args := [.agg #[pv b, .int .i64 y, .int .i64 f], .agg x.cells.toArray]) Tryz.func52 rfl (by decide) rfl fun w0 => ?_
  refine sx hte rfl ?_
  refine W_call rfl rfl (tree_Get X b y x.node s h) ?_
  rintro r X1 ⟨hL, rfl⟩
  refine ⟨hL.ck.kx, _, rfl, sx hte rfl ?_⟩
  unfold expTwo
  cases hn : treeNode y x.node s.now with
  | none =>
    refine W_true rfl (sx hte rfl ?_)
    exact W_ret hte rfl ⟨none, 0, rfl, X1, hL, New.nil _ _ _⟩
  | some n =>
    refine W_false rfl (sx hte rfl ?_)
    refine W_layN 3 4 2 [Line.cells ⟨n.fund, n.object, 0, x.original⟩, Line.cells ⟨n.fund, 1010, 0, w64 (0 - x.original)⟩] rfl rfl (by simp [Line.cells]) rfl (fun _ => rfl) rfl fun b1 X2 hN => ?_
    exact W_ret hte rfl ⟨_, _, rfl, X1, hL, hN⟩
structure LI where
  k : Nat
  done : List Line
  p : Option Addr
  c : Nat
  X : Hp
theorem lcells_append (a b : List Line) : lcells a ++ lcells b = lcells (a ++ b) := by simp [lcells]
theorem exp_Lines (X : Hp) (b : Nat) (y : Int) (p : Option Addr) (l : List DocLine) (c : Nat) (s : VS) (h : VM X (pv b) s) (hA : Arr X 47 4 p (dcells l)) (hl : l.length ≤ 1000000) :
    Trip Tryz.prog 18 #[pv b, .int .i64 y, .slice p l.length c] X (Rt fun r X' => ∃ p c, r = .slice p (expLines y l s.now).length c ∧ Nw X X' 45 4 p c (lcells (expLines y l s.now))) := by
  refine enter (args := [pv b, .int .i64 y, .slice p l.length c]) Tryz.func18 rfl (by decide) rfl fun w0 => ?_
  refine sx hte rfl ?_
  refine W_for (ι := LI) (fun i => i.k ≤ l.length ∧ i.done = expLines y (l.take i.k) s.now ∧ i.done.length ≤ 2 * i.k ∧ Nw X i.X 45 4 i.p i.c (lcells i.done)) (fun i => l.length - i.k) [8, 16]
    (fun i => [(8, .v (.slice i.p i.done.length i.c)), (16, .v (.int .i64 i.k))]) [] (fun _ => []) LI.X ⟨0, [], none, 0, X⟩ ⟨by simp, rfl, by simp, Nw.nil _ _ _⟩
    ⟨rfl, rfl, trivial⟩ trivial rfl rfl rfl fun i hi => ?_
  obtain ⟨k, done, q, c2, Xi⟩ := i
  obtain ⟨hk, hd, hlen, hN⟩ := hi
  simp only at hk hd hlen hN ⊢
  refine sx hte rfl ?_
  refine W_if rfl (fun hq => sx hte rfl ?_) (fun hq => sx hte rfl ?_)
  · simp only [decide_eq_true_eq] at hq
    have hk' : k < l.length := by omega
    have hrow : (dcells l)[k]? = some l[k].cells := by simp [dcells, hk']
    refine W_idx (m := k) hte rfl rfl rfl rfl rfl (hA.ck hN.le.ck) rfl (by omega) hrow rfl fun bb o => ?_
    refine sx hte rfl ?_
    have hd2 : expLines y (l.take (k + 1)) s.now = done ++ expTwo y s.now l[k] := by
      rw [hd]; unfold expLines; rw [List.take_succ_eq_append_getElem hk', List.flatMap_append]; simp
    generalize l[k] = x at hd2 ⊢
    refine W_call rfl rfl (exp_two Xi _ y 0 x s (h.le hN.le)) ?_
    rintro r X3 ⟨p3, c3, rfl, hN3⟩
    refine ⟨hN3.le.ck.kx, _, rfl, sx hte rfl ?_⟩
    obtain ⟨Y, hlY, hNY⟩ := hN.re hN3.le
    have h2 : (expTwo y s.now x).length ≤ 2 := by
      rcases expTwo_cases y s.now x with e | ⟨n, _, e⟩ <;> rw [e] <;> simp
    refine W_app (us := lcells (expTwo y s.now x)) hte rfl rfl rfl rfl rfl rfl rfl (by decide) hNY (lcells_length _).symm (by simp [lcells, Line.cells]; intros; rfl) (lcells_length _).symm (Src.row rfl hN3.arr (lcells_length _).symm) (fun v hv => by
      simp only [lcells, List.mem_flatten, List.mem_map] at hv
      obtain ⟨_, ⟨z, _, rfl⟩, hv⟩ := hv
      simp only [Line.cells, List.mem_cons, List.not_mem_nil, or_false] at hv
      rcases hv with rfl | rfl | rfl | rfl <;> rfl) (by omega) fun p' c' X' (hN' : New _ _ _ 4 _ _ _) => ⟨_, rfl, ?_⟩
    refine sx hte rfl ?_
    rw [lcells_append] at hN'
    refine W_again ⟨k + 1, done ++ expTwo y s.now x, p', c', X'⟩ ⟨by dsimp only; omega, hd2.symm, by simp; omega, Y, hlY, hN'⟩ (by dsimp only; omega) ⟨?_, ?_, trivial⟩ (by repeat first | exact trivial | refine ⟨rfl, ?_⟩) trivial (by repeat first | exact trivial | refine ⟨rfl, ?_⟩) rfl rfl rfl
    · show some (SV.v (.slice p' _ c')) = _
      simp
    · show some (SV.v (.int .i64 _)) = _
      rw [i64_wrap (by omega) (by omega)]; simp
  · simp only [decide_eq_false_iff_not] at hq
    have hk' : k = l.length := by omega
    subst hk'
    rw [List.take_length] at hd
    subst hd
    exact W_ret hte rfl ⟨q, c2, rfl, hN⟩
structure QI where
  k : Nat
  done : List DocLine
  p : Option Addr
  c : Nat
  X : Hp
theorem exp_lines0 {E : TypeId} (X : Hp) (b : Nat) (y : Int) (p : Option Addr) (l : List Line) (c : Nat) (hA : Arr X E 4 p (lcells l)) (hl : l.length ≤ 1000000) :
    Trip Tryz.prog 30 #[.agg #[pv b, .int .i64 y, .int .i64 0], .slice p l.length c] X (Rt fun r X' => ∃ p c, r = .tuple #[.slice p (expOwn0 l).length c, .int .i64 0] ∧ Nw X X' 47 4 p c (dcells (expOwn0 l))) := by
  refine enter (args := [.agg #[pv b, .int .i64 y, .int .i64 0], .slice p l.length c]) Tryz.func30 rfl (by decide) rfl fun w0 => ?_
  refine sx hte rfl ?_
  refine W_true rfl (sx hte rfl ?_)
  refine W_for (ι := QI) (fun i => i.k ≤ l.length ∧ i.done = expOwn0 (l.take i.k) ∧ Nw X i.X 47 4 i.p i.c (dcells i.done)) (fun i => l.length - i.k) [6, 16]
    (fun i => [(6, .v (.slice i.p i.done.length i.c)), (16, .v (.int .i64 i.k))]) [] (fun _ => []) QI.X ⟨0, [], none, 0, X⟩ ⟨by simp, rfl, Nw.nil _ _ _⟩
    ⟨rfl, rfl, trivial⟩ trivial rfl rfl rfl fun i hi => ?_
  obtain ⟨k, done, q, c2, Xi⟩ := i
  obtain ⟨hk, hd, hN⟩ := hi
  simp only at hk hd hN ⊢
  have hlen : done.length = k := by rw [hd]; simp [expOwn0]; omega
  refine sx hte rfl ?_
  refine W_if rfl (fun hq => sx hte rfl ?_) (fun hq => sx hte rfl ?_)
  · simp only [decide_eq_true_eq] at hq
    have hk' : k < l.length := by omega
    have hrow : (lcells l)[k]? = some l[k].cells := by simp [lcells, hk']
    refine W_idx (m := k) hte rfl rfl rfl rfl rfl (hA.ck hN.le.ck) rfl (by omega) hrow rfl fun bb o => ?_
    refine sx hte rfl ?_
    have hd2 : expOwn0 (l.take (k + 1)) = done ++ [⟨l[k].node, l[k].amount, l[k].amount, 0⟩] := by
      rw [hd]; unfold expOwn0; rw [List.take_succ_eq_append_getElem hk', List.map_append]; simp
    generalize l[k] = x at hd2 ⊢
    obtain ⟨Y, hlY, hNY⟩ := hN
    refine W_app (us := [DocLine.cells ⟨x.node, x.amount, x.amount, 0⟩]) hte rfl rfl rfl rfl rfl rfl rfl (by decide) hNY (dcells_length _).symm (by simp [DocLine.cells]; rfl) rfl (Src.lab rfl rfl rfl) (by simp [one, DocLine.cells]) (by simp only [List.length_cons, List.length_nil]; omega) fun p' c' X' (hN' : New _ _ _ 4 _ _ _) => ⟨_, rfl, ?_⟩
    refine sx hte rfl ?_
    refine W_again ⟨k + 1, done ++ [⟨x.node, x.amount, x.amount, 0⟩], p', c', X'⟩ ⟨by dsimp only; omega, hd2.symm, Y, hlY, by simpa [dcells] using hN'⟩ (by dsimp only; omega) ⟨?_, ?_, trivial⟩ (by repeat first | exact trivial | refine ⟨rfl, ?_⟩) trivial (by repeat first | exact trivial | refine ⟨rfl, ?_⟩) rfl rfl rfl
    · show some (SV.v (.slice p' _ c')) = _
      simp
    · show some (SV.v (.int .i64 _)) = _
      rw [i64_wrap (by omega) (by omega)]; simp
  · simp only [decide_eq_false_iff_not] at hq
    have hk' : k = l.length := by omega
    subst hk'
    rw [List.take_length] at hd
    subst hd
    exact W_ret hte rfl ⟨q, c2, rfl, hN⟩
theorem exp_charge (X : Hp) (b : Nat) (y f : Int) (p : Option Addr) (l : List DocLine) (c : Nat) (s : VS) (h : VM X (pv b) s) (hA : Arr X 47 4 p (dcells l)) (hl : l.length ≤ 1000000) :
    Trip Tryz.prog 31 #[.agg #[pv b, .int .i64 y, .int .i64 f], .slice p l.length c] X (Rt fun r X' => r = .tuple #[.bool (expCharge y f l false s).1.1, .int .i64 (expCharge y f l false s).1.2] ∧ CK X X' ∧ VM X' (pv b) (expCharge y f l false s).2) := by
  generalize hR : expCharge y f l false s = R
  refine enter (args := [.agg #[pv b, .int .i64 y, .int .i64 f], .slice p l.length c]) Tryz.func31 rfl (by decide) rfl fun w0 => ?_
  refine sx hte rfl ?_
  refine W_for (ι := CI) (fun i => i.k ≤ l.length ∧ expCharge y f (l.drop i.k) i.w i.s = R ∧ CK X i.X ∧ VM i.X (pv b) i.s) (fun i => l.length - i.k) [6, 14, 9]
    (fun i => [(6, .v (.bool i.w)), (14, .v (.int .i64 i.k))]) [] (fun _ => []) CI.X ⟨0, false, s, X⟩ ⟨by simp, by simpa using hR, CK.refl _, h⟩
    ⟨rfl, rfl, trivial⟩ trivial rfl rfl rfl fun i hi => ?_
  obtain ⟨k, w, si, Xi⟩ := i
  obtain ⟨hk, hd, hc, hV⟩ := hi
  simp only at hk hd hc hV ⊢
  refine sx hte rfl ?_
  refine W_if rfl (fun hq => sx hte rfl ?_) (fun hq => sx hte rfl ?_)
  · simp only [decide_eq_true_eq] at hq
    have hk' : k < l.length := by omega
    have hrow : (dcells l)[k]? = some l[k].cells := by simp [dcells, hk']
    refine W_idx (m := k) hte rfl rfl rfl rfl rfl (hA.ck hc) rfl (by omega) hrow rfl fun bb o => ?_
    refine sx hte rfl ?_
    rw [List.drop_eq_getElem_cons hk'] at hd
    generalize l[k] = x at hd ⊢
    simp only [expCharge] at hd
    refine W_if rfl (fun hf => sx hte rfl ?_) (fun hf => sx hte rfl ?_)
    all_goals
      have hT := ctrl_Charge Xi b y x.node (expChg f x) si hV
      unfold expChg at hT hd
      first
        | rw [if_neg (show ¬ f = 0 by simpa using hf)] at hT hd
        | rw [if_pos (show f = 0 by simpa using hf)] at hT hd
      refine W_call rfl rfl hT ?_
      rintro r X4 ⟨rfl, hck, hV4⟩
      refine ⟨hck.kx, _, rfl, sx hte rfl ?_⟩
      refine W_if rfl (fun h3 => sx hte rfl ?_) (fun h3 => sx hte rfl ?_)
      · rw [if_pos (by simpa using h3)] at hd
        subst hd
        exact W_ret hte rfl ⟨rfl, hc.trans hck, hV4⟩
      · rw [if_neg (by simpa using h3)] at hd
        refine W_again ⟨k + 1, _, _, X4⟩ ⟨by dsimp only; omega, hd, hc.trans hck, hV4⟩ (by dsimp only; omega) ⟨rfl, ?_, trivial⟩ (by repeat first | exact trivial | refine ⟨rfl, ?_⟩) trivial (by repeat first | exact trivial | refine ⟨rfl, ?_⟩) rfl rfl rfl
        show some (SV.v (.int .i64 _)) = _
        rw [i64_wrap (by omega) (by omega)]; simp
  · simp only [decide_eq_false_iff_not] at hq
    have hk' : k = l.length := by omega
    subst hk'
    rw [List.drop_length] at hd
    simp only [expCharge] at hd
    subst hd
    exact W_ret hte rfl ⟨rfl, hc, hV⟩
end Go.Fw
/- Zeros appended: a slice is made to grow. -/
namespace Go.Fw
open Go.Proofs
section
variable {cx : Cx} {k k' : List It} {σ σ' : Fm} {H H' : Own} {nl nl' : Nat} {X : Hp} {a : Act} {w : World} {ρ : Nat → Nat × Nat} {te : Te} {s : SV} {ops : Array Oper} {o : Oper} {rest : List Oper}
theorem run_append_zeros (hte : TeOk cx.P te) {T U E ty : TypeId} {ti ei ui : TI} {m : Nat} {z : Value} (ht : te T = some ti) (hd : ti.desc = .slice E) (he : te E = some ei) (hU : te U = some ui) (hui : ui.desc = .int .i64)
    (hz : ei.zero = some z) (hsz : 0 < ei.size) (hm0 : 0 < m) (hm : m ≤ 1000000000) (hby : ei.bytes ≤ 1024) :
    ∃ c', m ≤ c' ∧ (Builtin.append_ #[T, U] ty #[.slice none 0 0, .int .i64 m]).run cx.P w = .ok (.slice (some ⟨w.heap.size, 0, none⟩) m c') { w with drawn := w.drawn + 1, heap := w.heap.push (.cells (Builtin.zeroCells z.cells m ++ Builtin.zeroCells z.cells (c' - m)) E) } := by
  have hu := run_und w (hte _ _ ht)
  rw [hd] at hu
  have hu2 := run_und w (hte _ _ hU)
  rw [hui] at hu2
  have hs := run_size w (hte _ _ he)
  obtain ⟨f, hb1, hb2, _⟩ := run_bytes w (hte _ _ he)
  obtain ⟨f', hb1', hb2', _⟩ := run_bytes { w with drawn := w.drawn + 1 } (hte _ _ he)
  have hzr := run_zero { w with drawn := w.drawn + 1 } (hte _ _ he) hz
  obtain ⟨c, hc1, hc2⟩ := run_appendCap (P := cx.P) m 0 E w
  have hnc := nextcap_le m 0 (by omega)
  have hmul : Builtin.nextslicecap m 0 * f.bytes ≤ 2 ^ 48 := by
    rw [hb2]
    calc Builtin.nextslicecap m 0 * ei.bytes ≤ (2 * m + 768) * 1024 := Nat.mul_le_mul hnc hby
      _ ≤ 2 ^ 48 := by omega
  have hmax : ¬ ((m : Int) > IntKind.i64.max) := by
    have : IntKind.i64.max = 9223372036854775807 := by decide
    omega
  refine ⟨c, hc1, ?_⟩
  have h1 : ¬ (m ≤ 0) := by omega
  have hw : IntKind.i64.wrap (m : Int) = m := i64_wrap (by omega) (by omega)
  have hneg : ¬ ((m : Int) < 0) := by omega
  have hbig : ¬ ((m : Int) * (f.bytes : Int) > 2 ^ 48) := by
    rw [hb2]
    have : m * ei.bytes ≤ 1000000000 * 1024 := Nat.mul_le_mul hm hby
    have h2 : ((m * ei.bytes : Nat) : Int) ≤ ((1000000000 * 1024 : Nat) : Int) := Int.ofNat_le.2 this
    rw [Int.natCast_mul] at h2
    have h3 : ((1000000000 * 1024 : Nat) : Int) ≤ 2 ^ 48 := by decide
    exact Int.not_lt.2 (Int.le_trans h2 h3)
  have hns : ¬ (m * ei.size = 0) := by
    intro h
    rcases Nat.mul_eq_zero.1 h with h | h <;> omega
  unfold Builtin.append_
  simp only [List.getElem?_toArray, List.getElem?_cons_zero, List.getElem?_cons_succ, Sem.run_bind, hu, hs, hu2, Result.andThen_ok, Sem.run_pure]
  simp only [asInt, asIntOf, Sem.run_bind, Sem.run_pure, Result.andThen_ok, hw, if_true, if_neg hneg, hb1, if_neg hbig, Int.toNat_natCast, Nat.zero_add, if_neg h1, Builtin.firstCells, if_neg hns, Bool.not_true, Bool.false_eq_true, if_false]
  have hno' : ¬ ((m : Int) > IntKind.i64.max ∧ (True ∨ f.bytes = 0)) := fun h => hmax h.1
  have hno2' : ¬ (Builtin.nextslicecap m 0 * f.bytes > 2 ^ 48) := by omega
  rw [if_neg hno']
  simp only [Sem.run_bind, Sem.run_pure, Result.andThen_ok, hb1, if_neg hno2', hc2, hb1', run_askRoom, hzr, run_newRow]
  simp only [Result.ok.injEq, World.mk.injEq, and_true, true_and]
  congr 2
  apply Array.ext'
  simp
theorem zeroCells_len (z : Array Value) (n : Nat) : (Builtin.zeroCells z n).toList.length = n * z.size := by simp [Builtin.zeroCells]
/-- Rows out of cells. -/
theorem rows_of (k : Nat) : ∀ (n : Nat) (l : List Value), l.length = n * k → ∃ vs : List (List Value), vs.length = n ∧ (∀ v ∈ vs, v.length = k) ∧ vs.flatten = l := by
  intro n
  induction n with
  | zero => intro l h; exact ⟨[], rfl, (fun _ h => by cases h), (List.eq_nil_of_length_eq_zero (by simpa using h)).symm⟩
  | succ n ih =>
    intro l h
    rw [Nat.succ_mul] at h
    obtain ⟨vs, h1, h2, h3⟩ := ih (l.drop k) (by rw [List.length_drop]; omega)
    refine ⟨l.take k :: vs, by simp [h1], fun v hv => ?_, by rw [List.flatten_cons, h3, List.take_append_drop]⟩
    rcases List.mem_cons.1 hv with rfl | hv
    · rw [List.length_take]; omega
    · exact h2 v hv
theorem W_appz (hte : TeOk cx.P te) {T U E : TypeId} {x y : Operand} {dst : Option Tmp} {ty : TypeId} {pos : String} {after : Array Edge} {ti ei ui : TI} {m : Nat} {z : Value}
    (hx : ev σ x = some (.v (.slice none 0 0))) (hy : ev σ y = some (.v (.int .i64 m))) (ht : te T = some ti) (hd : ti.desc = .slice E) (he : te E = some ei) (hU : te U = some ui) (hui : ui.desc = .int .i64)
    (hz : ei.zero = some z) (hzl : (cellsL z).length = ei.size) (hsz : 0 < ei.size) (hm0 : 0 < m) (hm : m ≤ 1000000000) (hby : ei.bytes ≤ 1024)
    (hk : ∀ b c' X' vs, vs.length = m → m ≤ c' → New X X' E ei.size (some ⟨b, 0, none⟩) c' [] → Arr X' E ei.size (some ⟨b, 0, none⟩) vs → ∃ σ', putS cx.n dst (.v (.slice (some ⟨b, 0, none⟩) m c')) σ = some σ' ∧ W cx (.rg ops rest :: k) σ' H nl X') :
    W cx (.rg ops ({ dst := dst, op := .call { callee := .builtin .append, args := #[x, y], argTypes := #[T, U] }, type := ty, pos := pos, after := after, guard := none } :: rest) :: k) σ H nl X := by
  intro a w ρ hok
  refine run_op rfl ?_
  have ex := hok.eval hx trivial
  have ey := hok.eval hy trivial
  simp only [SV.den] at ex ey
  obtain ⟨c', hc', hrun⟩ := run_append_zeros (w := w) (ty := ty) hte ht hd he hU hui hz hsz hm0 hm hby
  have hexec : (execOp a.eval { dst := dst, op := .call { callee := .builtin .append, args := #[x, y], argTypes := #[T, U] }, type := ty, pos := pos, after := after, guard := none }).run cx.P w = .ok (.value (.slice (some ⟨w.heap.size, 0, none⟩) m c')) { w with drawn := w.drawn + 1, heap := w.heap.push (.cells (Builtin.zeroCells z.cells m ++ Builtin.zeroCells z.cells (c' - m)) E) } := by
    simp [execOp, resolve, invoke, builtin, ex, ey, hrun]
  unfold Oper.wp
  rw [hexec]
  have hzs : z.cells.size = ei.size := by rw [← hzl, ← cellsL_eq]; simp
  obtain ⟨vs, hv1, hv2, hv3⟩ := rows_of ei.size m (Builtin.zeroCells z.cells m).toList (by rw [zeroCells_len, hzs])
  have hX0 : X w.heap.size = none := hok.x_none
  have hcells : (Builtin.zeroCells z.cells m ++ Builtin.zeroCells z.cells (c' - m)) = (vs.flatten ++ (Builtin.zeroCells z.cells (c' - m)).toList).toArray := by
    apply Array.ext'; simp [hv3]
  rw [hcells]
  have hlen : (vs.flatten ++ (Builtin.zeroCells z.cells (c' - m)).toList).length = c' * ei.size := by
    rw [List.length_append, hv3, zeroCells_len, zeroCells_len, hzs, ← Nat.add_mul]; congr 1; omega
  have hnew : New X (X.upd w.heap.size (.cells (vs.flatten ++ (Builtin.zeroCells z.cells (c' - m)).toList).toArray E (0, 0))) E ei.size (some ⟨w.heap.size, 0, none⟩) c' [] :=
    ⟨(fun _ h => by cases h), .inr ⟨w.heap.size, _, rfl, hX0, rfl, hlen, Nat.zero_le _⟩⟩
  have hnew2 : New X (X.upd w.heap.size (.cells (vs.flatten ++ (Builtin.zeroCells z.cells (c' - m)).toList).toArray E (0, 0))) E ei.size (some ⟨w.heap.size, 0, none⟩) c' vs :=
    ⟨hv2, .inr ⟨w.heap.size, _, rfl, hX0, rfl, hlen, by omega⟩⟩
  obtain ⟨σ', hp, hW⟩ := hk _ c' _ vs hv1 hc' hnew hnew2.arr
  have hok2 := (hok.drewTo (w.drawn + 1) (Nat.le_succ _)).lay (.cells (vs.flatten ++ (Builtin.zeroCells z.cells (c' - m)).toList).toArray E (0, 0))
  exact hW _ _ ρ (hok2.put hp trivial)
theorem V_cap {P : Program} (hte : TeOk P te) {x : Operand} {T E : TypeId} {ti : TI} {p : Option Addr} {n c : Nat} (hx : ev σ x = some (.v (.slice p n c))) (ht : te T = some ti) (hd : ti.desc = .slice E) : VOp P σ X (.call { callee := .builtin .cap, args := #[x], argTypes := #[T] }) (.int .i64 c) := by
  intro a w o ho hev hsub
  have ex := hev _ _ hx
  have hu := run_und w (hte _ _ ht)
  rw [hd] at hu
  simp [execOp, ho, resolve, invoke, builtin, ex, Builtin.cap_, hu, goInt]
end
theorem grow_Line (X : Hp) (n : Nat) (hn : n ≤ 1000000) :
    Trip Tryz.prog 226 #[.slice none 0 0, .int .i64 n] X (Rt fun r X' => ∃ p c, r = .slice p 0 c ∧ New X X' 45 4 p c []) := by
  refine enter (args := [.slice none 0 0, .int .i64 n]) Tryz.func226 rfl (by decide) rfl fun w0 => ?_
  refine sx hte rfl ?_
  refine W_if rfl (fun h1 => ?_) (fun h1 => sx hte rfl ?_)
  · simp at h1; omega
  refine W_v (V_cap hte rfl rfl rfl) rfl ?_
  refine sx hte rfl ?_
  have e : IntKind.i64.wrap ((n : Int) - IntKind.i64.wrap (((0 : Nat) : Int) - ((0 : Nat) : Int))) = n := by
    rw [show IntKind.i64.wrap (((0 : Nat) : Int) - ((0 : Nat) : Int)) = 0 from rfl]; rw [i64_wrap (by omega) (by omega)]; omega
  rw [e]
  refine W_if rfl (fun h2 => sx hte rfl ?_) (fun h2 => sx hte rfl ?_)
  · have h2' : 0 < n := by simpa using h2
    refine W_v (V_cap hte rfl rfl rfl) rfl ?_
    refine sx hte rfl ?_
    refine W_cut (l := 0) (h := 0) (vs := []) hte rfl rfl rfl rfl (Arr.nil _ _ _ _) rfl (Nat.le_refl _) rfl ⟨_, _, rfl, rfl⟩ (Nat.le_refl _) (Nat.le_refl _) fun q c' _ _ hq => ⟨_, rfl, ?_⟩
    obtain ⟨rfl, rfl⟩ := hq
    refine sx hte rfl ?_
    refine W_appz (m := n) hte rfl rfl rfl rfl rfl rfl rfl rfl rfl (by decide) h2' (by omega) (by decide) fun b c' X' vs hv hc hN hA => ⟨_, rfl, ?_⟩
    refine sx hte rfl ?_
    refine W_cut (l := 0) (h := 0) (vs := vs) hte rfl rfl rfl rfl hA hv.symm hc rfl ⟨_, _, rfl, rfl⟩ (Nat.le_refl _) (Nat.zero_le _) fun q c2 _ _ hq => ⟨_, rfl, ?_⟩
    obtain ⟨hq, rfl⟩ := hq
    rw [if_neg (by omega)] at hq
    subst hq
    refine sx hte rfl ?_
    exact W_ret hte rfl ⟨_, _, rfl, hN⟩
  · exact W_ret hte rfl ⟨none, 0, rfl, New.nil _ _ _⟩
end Go.Fw
