import Derived.Test.YtdpfakplphlbgaaGreatDoorMc
import Derived.Test.YtdpfakplphlbgaaGreatDoorMh
import Derived.Lib.BytesEntry
import Derived.Lib.Bytealg
/- The walks of bytes (Clone, Equal, HasPrefix) and of a view in memory: made, read, written. -/
namespace Go.Fw
open Go.Proofs
theorem bytes_Clone (X : Hp) (v : Value) (b : Bs) (hb : Bytes X v b) (hl : b.length ≤ 2147483000) : Trip Tryz.prog 77 #[v] X (Rt fun r X' => Le X X' ∧ Bytes X' r b) := by
  obtain ⟨a, c, rfl, hA, hc⟩ := hb
  refine enter (args := [.slice a b.length c]) Tryz.func77 rfl (by decide) rfl fun w0 => ?_
  refine sx hte rfl ?_
  refine W_v (V_slnil hte rfl rfl rfl) rfl ?_
  refine sx hte rfl ?_
  refine W_if rfl (fun h => sx hte rfl ?_) (fun h => sx hte rfl ?_)
  · have ha : a = none := by simpa using h
    subst ha
    have hb0 : b = [] := by
      rcases hA.mem with h | ⟨_, _, _, _, h, _⟩
      · simpa [bcells] using h
      · cases h
    subst hb0
    exact W_ret hte rfl ⟨Le.refl _, none, 0, rfl, Arr.nil _ _ _ _, Nat.le_refl _⟩
  refine W_layN 0 1 0 [] rfl rfl (by simp) rfl (fun _ => rfl) rfl fun b0 X1 hN => ?_
  refine W_app (us := bcells b) hte rfl rfl rfl rfl rfl rfl rfl (by decide) hN rfl (by simp [bcells]; intros; rfl) (bcells_length _).symm (Src.row rfl (hA.ck hN.le.ck) (bcells_length _).symm) (by simp [bcells_flat, one]) (by omega) fun p' c' X' (hN' : New _ _ _ 1 _ _ _) => ⟨_, rfl, ?_⟩
  refine sx hte rfl ?_
  simp only [Nat.zero_add]
  refine W_ret hte rfl ⟨hN'.le, p', c', rfl, hN'.arr, ?_⟩
  have := hN'.cap
  simpa [bcells] using this
theorem ba_loop_eq (b : ByteArray) : ∀ (n i : Nat) (r : List UInt8), b.size - i = n → ByteArray.toList.loop b i r = r.reverse ++ b.data.toList.drop i := by
  intro n
  induction n with
  | zero =>
    intro i r h
    unfold ByteArray.toList.loop
    rw [if_neg (by omega), List.drop_of_length_le (by have : b.data.toList.length = b.size := rfl; omega)]; simp
  | succ n ih =>
    intro i r h
    unfold ByteArray.toList.loop
    have hlt : i < b.size := by omega
    rw [if_pos hlt, ih (i + 1) _ (by omega)]
    have hl : i < b.data.toList.length := hlt
    rw [List.drop_eq_getElem_cons hl]
    have hg : b.get! i = b.data.toList[i] := by
      show b.data[i]! = _
      rw [getElem!_pos b.data i hlt]; simp
    simp [hg]
theorem ba_toList (b : ByteArray) : b.toList = b.data.toList := by
  rw [ByteArray.toList, ba_loop_eq b _ 0 [] rfl]; simp
theorem arr_toList (l : List UInt8) : (ByteArray.mk l.toArray).toList = l := by rw [ba_toList]
theorem bytes_Equal (X : Hp) (v w : Value) (b d : Bs) (hb : Bytes X v b) (hd : Bytes X w d) : Trip Tryz.prog 76 #[v, w] X (Pu (.bool (b == d)) X) := by
  obtain ⟨a, c, rfl, hA, hc⟩ := hb
  obtain ⟨a2, c2, rfl, hA2, hc2⟩ := hd
  refine enter (args := [.slice a b.length c, .slice a2 d.length c2]) Tryz.func76 rfl (by decide) rfl fun w0 => ?_
  refine sx hte rfl ?_
  refine W_v (V_b2s hte rfl rfl rfl rfl rfl rfl rfl hA rfl) rfl ?_
  refine sx hte rfl ?_
  refine W_v (V_b2s hte rfl rfl rfl rfl rfl rfl rfl hA2 rfl) rfl ?_
  refine sx hte rfl ?_
  exact W_ret hte rfl ⟨rfl, by simp [tup, arr_toList]⟩
def VM (X : Hp) (v : Value) (s : VS) : Prop :=
  ∃ b rc rm kc km, v = .pointer (some ⟨b, 0, none⟩) ∧ X b = some (.cells #[.map (some rc), .pointer none, .map (some rm), .int .i64 0] 75 (0, 0)) ∧ MapX X rc kc ∧ MapX X rm km ∧ rc ≠ rm ∧
    (∀ k : Bs, match getK ⟨k.toArray⟩ km with
      | none => getT k s.was = none
      | some v => ∃ d, getT k s.was = some d ∧ Bytes X v d) ∧
    (∀ k : Bs, match getK ⟨k.toArray⟩ kc with
      | none => getT k s.now = getT k s.was
      | some v => ∃ w g, v = .agg #[w, .bool g] ∧ if g then getT k s.now = none ∧ w = .slice none 0 0 else ∃ d, getT k s.now = some d ∧ Bytes X w d) ∧
    kc.length ≤ s.chg ∧ km.length ≤ s.was.length ∧ s.Ok
theorem view_ready (X : Hp) (v : Value) (s : VS) (h : VM X v s) : Trip Tryz.prog 33 #[v] X (Pu (.bool true) X) := by
  obtain ⟨b, rc, rm, kc, km, rfl, hb, hrc, hrm, hne, hm, hcg, hn1, hn2, hok⟩ := h
  refine enter (args := [.pointer (some ⟨b, 0, none⟩)]) Tryz.func33 rfl (by decide) rfl fun w0 => ?_
  refine W_extp (cs := [.map (some rc), .pointer none, .map (some rm), .int .i64 0]) 0 rfl hb (fun j _ => by simp) ?_
  refine sx hte rfl ?_
  exact W_ret hte rfl ⟨rfl, rfl⟩
theorem mtC : MapT te 71 9 136 (.agg #[.slice none 0 0, .bool false]) := ⟨⟨_, rfl, rfl⟩, ⟨_, rfl, rfl⟩, ⟨_, rfl, rfl⟩⟩
theorem mtM : MapT te 73 9 107 (.slice none 0 0) := ⟨⟨_, rfl, rfl⟩, ⟨_, rfl, rfl⟩, ⟨_, rfl, rfl⟩⟩
theorem Bytes.nil (X : Hp) : Bytes X (.slice none 0 0) [] := ⟨none, 0, rfl, Arr.nil _ _ _ _, Nat.le_refl _⟩
theorem view_was (X : Hp) (v kv : Value) (s : VS) (k : Bs) (h : VM X v s) (hk : Bytes X kv k) :
    Trip Tryz.prog 75 #[v, kv] X (Rt fun r X' => X' = X ∧ ∃ w, r = .tuple #[w, .bool (getT k s.was).isSome] ∧ Bytes X w ((getT k s.was).getD [])) := by
  obtain ⟨b, rc, rm, kc, km, rfl, hb, hrc, hrm, hne, hm, hcg, hn1, hn2, hok⟩ := h
  obtain ⟨a, c, rfl, hA, hc⟩ := hk
  refine enter (args := [.pointer (some ⟨b, 0, none⟩), .slice a k.length c]) Tryz.func75 rfl (by decide) rfl fun w0 => ?_
  refine W_extp (cs := [.map (some rc), .pointer none, .map (some rm), .int .i64 0]) 0 rfl hb (fun j _ => by simp) ?_
  refine sx hte rfl ?_
  refine W_true rfl (sx hte rfl ?_)
  refine W_drawL [] mo (by kernel_rfl) (by kernel_rfl) rfl ?_
  refine dx hte rfl ?_
  refine WD_v (i := 5) rfl rfl (V_b2s hte rfl rfl rfl rfl rfl rfl rfl hA rfl) rfl ?_
  refine dx hte rfl ?_
  have hv := fun (σ : Fm) (x y : Operand) hx hy => V_lookup (σ := σ) (X := X) hte mtM (x := x) (y := y) (kv := km) (r := rm) (s := ⟨k.toArray⟩) hx hy hrm
  have hmk := hm k
  obtain ⟨w, hw1, hw2, hw3⟩ : ∃ w, (getK ⟨k.toArray⟩ km).getD (.slice none 0 0) = w ∧ (getK ⟨k.toArray⟩ km).isSome = (getT k s.was).isSome ∧ Bytes X w ((getT k s.was).getD []) := by
    cases hg : getK ⟨k.toArray⟩ km with
    | none => rw [hg] at hmk; simp only at hmk; rw [hmk]; exact ⟨_, rfl, rfl, Bytes.nil X⟩
    | some u => rw [hg] at hmk; obtain ⟨d, h1, h2⟩ := hmk; rw [h1]; exact ⟨u, rfl, rfl, h2⟩
  rw [hw1, hw2] at hv
  refine WD_v (i := 6) rfl rfl (hv _ _ _ rfl rfl) rfl ?_
  refine dx hte rfl ?_
  refine WD_done rfl (sx hte rfl ?_)
  exact W_ret hte rfl ⟨rfl, w, rfl, hw3⟩
theorem view_Get (X : Hp) (v kv : Value) (s : VS) (k : Bs) (h : VM X v s) (hk : Bytes X kv k) :
    Trip Tryz.prog 108 #[v, kv] X (Rt fun r X' => Le X X' ∧ ∃ w, r = .tuple #[w, .bool (getT k s.now).isSome] ∧ Bytes X' w ((getT k s.now).getD [])) := by
  have h' := h
  have hk' := hk
  obtain ⟨b, rc, rm, kc, km, rfl, hb, hrc, hrm, hne, hm, hcg, hn1, hn2, hok⟩ := h
  obtain ⟨a, c, rfl, hA, hc⟩ := hk
  refine enter (args := [.pointer (some ⟨b, 0, none⟩), .slice a k.length c]) Tryz.func108 rfl (by decide) rfl fun w0 => ?_
  refine W_extp (cs := [.map (some rc), .pointer none, .map (some rm), .int .i64 0]) 0 rfl hb (fun j _ => by simp) ?_
  refine sx hte rfl ?_
  refine W_callP rfl rfl (view_ready X _ s h') rfl ?_
  refine sx hte rfl ?_
  refine W_false rfl (sx hte rfl ?_)
  refine W_drawL [] mo (by kernel_rfl) (by kernel_rfl) rfl ?_
  refine dx hte rfl ?_
  refine WD_v (i := 5) rfl rfl (V_b2s hte rfl rfl rfl rfl rfl rfl rfl hA rfl) rfl ?_
  refine dx hte rfl ?_
  have hv := fun (σ : Fm) (x y : Operand) hx hy => V_lookup (σ := σ) (X := X) hte mtC (x := x) (y := y) (kv := kc) (r := rc) (s := ⟨k.toArray⟩) hx hy hrc
  have hck := hcg k
  cases hg : getK ⟨k.toArray⟩ kc with
  | none =>
    rw [hg] at hck hv
    simp only at hck
    refine WD_v (i := 6) rfl rfl (hv _ _ _ rfl rfl) rfl ?_
    repeat refine dx hte rfl (WD_1 rfl (SD_ex1 hte rfl rfl rfl rfl (by repeat first | exact trivial | refine ⟨rfl, ?_⟩) ?_))
    refine dx hte rfl (WD_done rfl (sx hte rfl ?_))
    refine W_true rfl (sx hte rfl ?_)
    refine W_call rfl rfl (view_was X _ _ s k h' hk') ?_
    rintro r X' ⟨rfl, w, rfl, hw⟩
    refine ⟨(CK.refl _).kx, _, rfl, ?_⟩
    refine sx hte rfl ?_
    rw [hck]
    have hwl : ((getT k s.was).getD []).length ≤ 2147483000 := by
      cases e : getT k s.was with
      | none => simp
      | some d => have := hok.get (hck.trans e); simp; omega
    refine W_call rfl rfl (bytes_Clone X' w _ hw hwl) ?_
    rintro r X1 ⟨hL, hr⟩
    refine ⟨hL.ck.kx, _, rfl, ?_⟩
    refine sx hte rfl ?_
    exact W_ret hte rfl ⟨hL, r, rfl, hr⟩
  | some u =>
    rw [hg] at hck hv
    obtain ⟨w, g, rfl, hgw⟩ := hck
    cases g with
    | true =>
      obtain ⟨hn, rfl⟩ : getT k s.now = none ∧ w = .slice none 0 0 := by simpa using hgw
      refine WD_v (i := 6) rfl rfl (hv _ _ _ rfl rfl) rfl ?_
      repeat refine dx hte rfl (WD_1 rfl (SD_ex1 hte rfl rfl rfl rfl (by repeat first | exact trivial | refine ⟨rfl, ?_⟩) ?_))
      refine dx hte rfl (WD_done rfl (sx hte rfl ?_))
      refine W_false rfl (sx hte rfl ?_)
      refine W_true rfl (sx hte rfl ?_)
      rw [hn]
      exact W_ret hte rfl ⟨Le.refl _, _, rfl, Bytes.nil X⟩
    | false =>
      obtain ⟨d, hd, hdw⟩ : ∃ d, getT k s.now = some d ∧ Bytes X w d := by simpa using hgw
      have hdw' := hdw
      obtain ⟨wa, wc, rfl, _, _⟩ := hdw
      refine WD_v (i := 6) rfl rfl (hv _ _ _ rfl rfl) rfl ?_
      repeat refine dx hte rfl (WD_1 rfl (SD_ex1 hte rfl rfl rfl rfl (by repeat first | exact trivial | refine ⟨rfl, ?_⟩) ?_))
      refine dx hte rfl (WD_done rfl (sx hte rfl ?_))
      refine W_false rfl (sx hte rfl ?_)
      refine W_false rfl (sx hte rfl ?_)
      rw [hd]
      have hwl : d.length ≤ 2147483000 := by have := hok.get hd; omega
      refine W_call rfl rfl (bytes_Clone X _ d hdw' hwl) ?_
      rintro r X1 ⟨hL, hr⟩
      refine ⟨hL.ck.kx, _, rfl, ?_⟩
      refine sx hte rfl ?_
      exact W_ret hte rfl ⟨hL, r, rfl, hr⟩
end Go.Fw
/- The walks of a view in memory: Put, Delete, New, Abort. -/
namespace Go.Fw
open Go.Proofs
theorem getK_setK (s : ByteArray) (v : Value) (j : ByteArray) : ∀ kv : KV, getK j (setK s v kv) = if j = s then some v else getK j kv := by
  intro kv
  induction kv with
  | nil => simp only [setK, getK, beq_iff_eq]
  | cons p kv ih =>
    obtain ⟨a, w⟩ := p
    simp only [setK]
    split
    · rename_i h
      have h : s = a := by simpa using h
      subst h
      simp only [getK, beq_iff_eq]
      by_cases e : j = s <;> simp [e]
    · rename_i h
      have h : ¬ s = a := by simpa using h
      simp only [getK, beq_iff_eq, ih]
      by_cases e : j = a
      · subst e; simp [Ne.symm h]
      · simp [e]
theorem setK_length (s : ByteArray) (v : Value) : ∀ kv : KV, List.length (setK s v kv) ≤ List.length kv + 1 := by
  intro kv
  induction kv with
  | nil => simp [setK]
  | cons p kv ih =>
    obtain ⟨a, w⟩ := p
    simp only [setK]
    split
    · simp
    · simp only [List.length_cons]; omega
theorem ba_eq {j k : Bs} : (ByteArray.mk j.toArray = ByteArray.mk k.toArray) ↔ j = k := by
  constructor
  · intro h
    have := congrArg (fun b => b.data.toList) h
    simpa using this
  · rintro rfl; rfl
theorem ck_map {X X1 : Hp} (hl : Le X X1) {r : Nat} (hr : ∀ cs T fz, X r ≠ some (.cells cs T fz)) (o : Obj) : CK X (X1.upd r o) := fun b cs T fz h => by
  rw [Hp.upd_ne _ _ (fun e => hr _ _ _ (e ▸ h))]
  exact hl _ _ h
theorem MapX.notcells {X : Hp} {r : Nat} {kv : KV} (h : MapX X r kv) : ∀ cs T fz, X r ≠ some (.cells cs T fz) := by
  obtain ⟨es, c, hX, _⟩ := h
  intro cs T fz e
  rw [hX] at e; cases e
theorem MapX.le {X X1 : Hp} {r : Nat} {kv : KV} (h : MapX X r kv) (hl : Le X X1) : MapX X1 r kv := by
  obtain ⟨es, c, hX, hA⟩ := h
  exact ⟨es, c, hl _ _ hX, hA⟩
theorem MapX.ne {X : Hp} {r r' : Nat} {kv : KV} (h : MapX X r kv) (o : Obj) (hne : r ≠ r') : MapX (X.upd r' o) r kv := by
  obtain ⟨es, c, hX, hA⟩ := h
  exact ⟨es, c, by rw [Hp.upd_ne _ _ hne]; exact hX, hA⟩
theorem VM.le {X X1 : Hp} {v : Value} {s : VS} (h : VM X v s) (hl : Le X X1) : VM X1 v s := by
  obtain ⟨b, rc, rm, kc, km, rfl, hb, hrc, hrm, hne, hm, hcg, hn1, hn2, hok⟩ := h
  refine ⟨b, rc, rm, kc, km, rfl, hl _ _ hb, hrc.le hl, hrm.le hl, hne, fun k => ?_, fun k => ?_, hn1, hn2, hok⟩
  · have := hm k
    cases e : getK ⟨k.toArray⟩ km with
    | none => rw [e] at this; exact this
    | some u => rw [e] at this; obtain ⟨d, h1, h2⟩ := this; exact ⟨d, h1, h2.ck hl.ck⟩
  · have := hcg k
    cases e : getK ⟨k.toArray⟩ kc with
    | none => rw [e] at this; exact this
    | some u =>
      rw [e] at this
      obtain ⟨w, g, h1, h2⟩ := this
      refine ⟨w, g, h1, ?_⟩
      cases g with
      | true => exact h2
      | false => obtain ⟨d, h3, h4⟩ := h2; exact ⟨d, h3, h4.ck hl.ck⟩
/-- The changes of a view get one more. -/
theorem VM.set {X X1 : Hp} {b rc rm : Nat} {kc km : KV} {s s' : VS} {k : Bs} {w : Value} {g : Bool} {es : Array MapEntry} {clock : Nat}
    (hb : X b = some (.cells #[.map (some rc), .pointer none, .map (some rm), .int .i64 0] 75 (0, 0))) (hrc : MapX X rc kc) (hrm : MapX X rm km) (hne : rc ≠ rm)
    (hm : ∀ k : Bs, match getK ⟨k.toArray⟩ km with
      | none => getT k s.was = none
      | some v => ∃ d, getT k s.was = some d ∧ Bytes X v d)
    (hcg : ∀ k : Bs, match getK ⟨k.toArray⟩ kc with
      | none => getT k s.now = getT k s.was
      | some v => ∃ w g, v = .agg #[w, .bool g] ∧ if g then getT k s.now = none ∧ w = .slice none 0 0 else ∃ d, getT k s.now = some d ∧ Bytes X w d)
    (hn1 : kc.length ≤ s.chg) (hn2 : km.length ≤ s.was.length) (hok : s'.Ok) (hl : Le X X1) (hes : MapAt es clock (setK ⟨k.toArray⟩ (.agg #[w, .bool g]) kc))
    (hw : s'.was = s.was) (hc : s'.chg = s.chg + 1) (ho : ∀ j, j ≠ k → getT j s'.now = getT j s.now)
    (hs : if g then getT k s'.now = none ∧ w = .slice none 0 0 else ∃ d, getT k s'.now = some d ∧ Bytes X1 w d) : VM (X1.upd rc (.map es clock)) (.pointer (some ⟨b, 0, none⟩)) s' := by
  have hck : CK X (X1.upd rc (.map es clock)) := ck_map hl hrc.notcells _
  have hck1 : CK X1 (X1.upd rc (.map es clock)) := ck_map (Le.refl _) (hrc.le hl).notcells _
  refine ⟨b, rc, rm, _, km, rfl, hck _ _ _ _ hb, ⟨es, clock, Hp.upd_same _ _ _, hes⟩, (hrm.le hl).ne _ (Ne.symm hne), hne, fun j => ?_, fun j => ?_, ?_, by rw [hw]; exact hn2, hok⟩
  · have := hm j
    rw [hw]
    cases e : getK ⟨j.toArray⟩ km with
    | none => rw [e] at this; exact this
    | some u => rw [e] at this; obtain ⟨d, h1, h2⟩ := this; exact ⟨d, h1, h2.ck hck⟩
  · rw [getK_setK]
    by_cases e : j = k
    · subst e
      rw [if_pos rfl]
      refine ⟨w, g, rfl, ?_⟩
      cases g with
      | true => exact hs
      | false => obtain ⟨d, h1, h2⟩ := hs; exact ⟨d, h1, h2.ck hck1⟩
    · rw [if_neg (fun h => e (ba_eq.1 h)), hw, ho j e]
      have := hcg j
      cases e2 : getK ⟨j.toArray⟩ kc with
      | none => rw [e2] at this; exact this
      | some u =>
        rw [e2] at this
        obtain ⟨w', g', h1, h2⟩ := this
        refine ⟨w', g', h1, ?_⟩
        cases g' with
        | true => exact h2
        | false => obtain ⟨d, h3, h4⟩ := h2; exact ⟨d, h3, h4.ck hck⟩
  · have := setK_length ⟨k.toArray⟩ (.agg #[w, .bool g]) kc
    omega
theorem view_Put (X : Hp) (v kv vv : Value) (s : VS) (k d : Bs) (h : VM X v s) (hk : Bytes X kv k) (hd : Bytes X vv d) (hkl : k.length ≤ 2147483000) (hdl : d.length ≤ 2147483000) :
    Trip Tryz.prog 64 #[v, kv, vv] X (Rt fun r X' => r = .int .i64 (s.put? k d).1 ∧ CK X X' ∧ VM X' v (s.put? k d).2) := by
  have h' := h
  have hd' := hd
  obtain ⟨b, rc, rm, kc, km, rfl, hb, hrc, hrm, hne, hm, hcg, hn1, hn2, hok⟩ := h
  obtain ⟨a, c, rfl, hA, hc⟩ := hk
  obtain ⟨a2, c2, rfl, hA2, hc2⟩ := hd
  refine enter (args := [.pointer (some ⟨b, 0, none⟩), .slice a k.length c, .slice a2 d.length c2]) Tryz.func64 rfl (by decide) rfl fun w0 => ?_
  refine W_extp (cs := [.map (some rc), .pointer none, .map (some rm), .int .i64 0]) 0 rfl hb (fun j _ => by simp) ?_
  refine sx hte rfl ?_
  refine W_callP rfl rfl (view_ready X _ s h') rfl ?_
  refine sx hte rfl ?_
  refine W_false rfl (sx hte rfl ?_)
  have hbad : (k.length < 1 ∨ k.length > 32 ∨ d.length > 120) → s.put? k d = (1, s) := fun h => by simp only [VS.put?, if_pos h]
  refine W_if rfl (fun h => sx hte rfl ?_) (fun h1 => sx hte rfl ?_)
  · refine W_true rfl (sx hte rfl ?_)
    rw [hbad (by simp only [decide_eq_true_eq] at h; omega)]
    exact W_ret hte rfl ⟨rfl, CK.refl _, h'⟩
  refine W_if rfl (fun h => sx hte rfl ?_) (fun h2 => sx hte rfl ?_)
  · refine W_true rfl (sx hte rfl ?_)
    rw [hbad (by simp at h; omega)]
    exact W_ret hte rfl ⟨rfl, CK.refl _, h'⟩
  refine W_if rfl (fun h => sx hte rfl ?_) (fun h3 => sx hte rfl ?_)
  · rw [hbad (by simp at h; omega)]
    exact W_ret hte rfl ⟨rfl, CK.refl _, h'⟩
  have hgood : ¬ (k.length < 1 ∨ k.length > 32 ∨ d.length > 120) := by
    simp at h1 h2 h3
    have : k.length ≠ 0 := fun e => by rw [e] at h1; omega
    omega
  have e : s.put? k d = (0, s.put k d) := by simp only [VS.put?, if_neg hgood]
  rw [e]
  refine W_drawX (Xs := X.del rc) [] mo (by kernel_rfl) (by kernel_rfl) rfl (Hp.del_le _ _) ?_
  refine dx hte rfl ?_
  refine WD_v (i := 5) rfl rfl (V_b2s hte rfl rfl rfl rfl rfl rfl rfl (hA.del hrc.notcells) rfl) rfl ?_
  refine dx hte rfl ?_
  refine WD_1 rfl (SD_callL (Hp.del_le _ _) rfl rfl rfl (bytes_Clone X _ d hd' hdl) ?_)
  rintro r X1 ⟨hL, wa, wc, rfl, hwA, hwc⟩
  refine ⟨hL, _, rfl, ?_⟩
  refine dx hte rfl ?_
  refine WD_1 rfl (SD_mapset hte mtC rfl rfl rfl rfl rfl (hrc.le hL) (by simp [Hp.del]) fun es clock hes => ⟨_, rfl, ?_⟩)
  refine WD_done rfl (sx hte rfl ?_)
  refine W_ret hte rfl ⟨rfl, ck_map hL hrc.notcells _, VM.set hb hrc hrm hne hm hcg hn1 hn2 (hok.put (by omega) (by omega)) hL hes rfl rfl (fun j hj => ?_) ⟨d, ?_, ⟨wa, wc, rfl, hwA, hwc⟩⟩⟩
  · simp [VS.put, getT_putT, hj]
  · simp [VS.put, getT_putT]
theorem view_Delete (X : Hp) (v kv : Value) (s : VS) (k : Bs) (h : VM X v s) (hk : Bytes X kv k) :
    Trip Tryz.prog 324 #[v, kv] X (Rt fun r X' => r = .bool (s.del? k).1 ∧ CK X X' ∧ VM X' v (s.del? k).2) := by
  have h' := h
  have hk' := hk
  obtain ⟨b, rc, rm, kc, km, rfl, hb, hrc, hrm, hne, hm, hcg, hn1, hn2, hok⟩ := h
  obtain ⟨a, c, rfl, hA, hc⟩ := hk
  refine enter (args := [.pointer (some ⟨b, 0, none⟩), .slice a k.length c]) Tryz.func324 rfl (by decide) rfl fun w0 => ?_
  refine sx hte rfl ?_
  refine W_call rfl rfl (view_Get X _ _ s k h' hk') ?_
  rintro r X1 ⟨hL, w, rfl, hw⟩
  refine ⟨hL.ck.kx, _, rfl, ?_⟩
  refine sx hte rfl ?_
  refine W_if rfl (fun h => sx hte rfl ?_) (fun h => sx hte rfl ?_)
  · have e : s.del? k = (false, s) := by
      simp only [Bool.not_eq_true'] at h
      simp [VS.del?, h]
    rw [e]
    exact W_ret hte rfl ⟨rfl, hL.ck, h'.le hL⟩
  have e : s.del? k = (true, s.del k) := by
    simp only [Bool.not_eq_false'] at h
    simp [VS.del?, h]
  rw [e]
  refine W_extp (cs := [.map (some rc), .pointer none, .map (some rm), .int .i64 0]) 0 rfl (hL _ _ hb) (fun j _ => by simp) ?_
  refine W_drawX (Xs := X1.del rc) [] mo (by kernel_rfl) (by kernel_rfl) rfl (Hp.del_le _ _) ?_
  refine dx hte rfl ?_
  refine WD_v (i := 5) rfl rfl (V_b2s hte rfl rfl rfl rfl rfl rfl rfl ((hA.ck hL.ck).del (hrc.le hL).notcells) rfl) rfl ?_
  refine dx hte rfl ?_
  refine WD_1 rfl (SD_mapset hte mtC rfl rfl rfl rfl rfl (hrc.le hL) (by simp [Hp.del]) fun es clock hes => ⟨_, rfl, ?_⟩)
  refine WD_done rfl (sx hte rfl ?_)
  refine W_ret hte rfl ⟨rfl, ck_map hL hrc.notcells _, VM.set (g := true) hb hrc hrm hne hm hcg hn1 hn2 (hok.del k) hL hes rfl rfl (fun j hj => ?_) ⟨?_, rfl⟩⟩
  · simp [VS.del, getT_delT, hj]
  · simp [VS.del, getT_delT]
theorem view_New (X : Hp) : Trip Tryz.prog 22 #[.pointer none] X (Rt fun r X' => Le X X' ∧ VM X' r VS.new) := by
  refine enter (args := [.pointer none]) Tryz.func22 rfl (by decide) rfl fun w0 => ?_
  refine sx hte rfl ?_
  refine W_makeMap fun rc hrc => ⟨_, rfl, ?_⟩
  refine sx hte rfl ?_
  refine W_makeMap fun rm hrm => ⟨_, rfl, ?_⟩
  refine sx hte rfl ?_
  refine W_lay 0 rfl (fun _ => rfl) rfl fun b hb => ?_
  have hne : rc ≠ rm := fun e => by subst e; rw [Hp.upd_same] at hrm; cases hrm
  have hrb : rc ≠ b := fun e => by
    subst e; rw [Hp.upd_ne _ _ hne, Hp.upd_same] at hb; cases hb
  have hmb : rm ≠ b := fun e => by subst e; rw [Hp.upd_same] at hb; cases hb
  refine sx hte rfl ?_
  refine W_ret hte rfl ⟨((Le.upd _ hrc).trans (Le.upd _ hrm)).trans (Le.upd _ hb), b, rc, rm, [], [], rfl, Hp.upd_same _ _ _, ⟨#[], 0, ?_, MapAt.empty⟩, ⟨#[], 0, ?_, MapAt.empty⟩, hne, fun k => rfl, fun k => rfl, Nat.le_refl _, Nat.le_refl _, VS.Ok.new⟩
  · rw [Hp.upd_ne _ _ hrb, Hp.upd_ne _ _ hne, Hp.upd_same]
  · rw [Hp.upd_ne _ _ hmb, Hp.upd_same]
end Go.Fw
/- The walks of a view in memory: Abort; and of bytes.HasPrefix. -/
namespace Go.Fw
open Go.Proofs
section
variable {cx : Cx} {k k' : List It} {σ σ' : Fm} {H H' : Own} {nl nl' : Nat} {X : Hp} {a : Act} {w : World} {ρ : Nat → Nat × Nat}
/-- A slot's address, told by its block's number. -/
theorem W_raw (t : Nat) {q : SV} {v : Value} (ht : look σ t = some q) (hr : real H q = some v) (h : W cx k ((t, .v v) :: σ) H nl X) : W cx k σ H nl X :=
  fun a w ρ hok => h a w ρ (hok.nameX ht (real_cond hr) (by rw [hok.v.real hr]; rfl) trivial)
end
theorem upd_self {X : Hp} {b : Nat} {o : Obj} (h : X b = some o) : X.upd b o = X := by
  funext i
  by_cases e : i = b
  · subst e; rw [Hp.upd_same, h]
  · rw [Hp.upd_ne _ _ e]
theorem getT_was_abort {s : VS} (k : Bs) : getT k s.abort.now = getT k s.abort.was := rfl
theorem view_Abort (X : Hp) (v : Value) (s : VS) (h : VM X v s) : Trip Tryz.prog 10 #[v] X (Rt fun r X' => r = .tuple #[] ∧ CK X X' ∧ VM X' v s.abort) := by
  have h' := h
  obtain ⟨b, rc, rm, kc, km, rfl, hb, hrc, hrm, hne, hm, hcg, hn1, hn2, hok⟩ := h
  refine enter (args := [.pointer (some ⟨b, 0, none⟩)]) Tryz.func10 rfl (by decide) rfl fun w0 => ?_
  refine W_extp (cs := [.map (some rc), .pointer none, .map (some rm), .int .i64 0]) 0 rfl hb (fun j _ => by simp) ?_
  refine sx hte rfl ?_
  refine W_callP rfl rfl (view_ready X _ s h') rfl ?_
  refine sx hte rfl ?_
  refine W_true rfl (sx hte rfl ?_)
  refine W_mapclear hte mtC rfl hrc fun clock => ⟨_, rfl, ?_⟩
  refine sx hte rfl ?_
  have hb' : (X.upd rc (.map #[] clock)) b = some (.cells #[.map (some rc), .pointer none, .map (some rm), .int .i64 0] 75 (0, 0)) := ck_map (Le.refl X) hrc.notcells _ _ _ _ _ hb
  refine W_raw 10 rfl rfl ?_
  refine W_stX (cs := [.map (some rc), .pointer none, .map (some rm), .int .i64 0]) hte rfl rfl rfl rfl rfl hb' (by simp [cellsL]) rfl ?_
  rw [show (putL [Value.map (some rc), .pointer none, .map (some rm), .int .i64 0] (0 + (0 + 3)) (cellsL (.int .i64 0))) = [.map (some rc), .pointer none, .map (some rm), .int .i64 0] from rfl, upd_self hb']
  refine sx hte rfl ?_
  have hck := ck_map (Le.refl X) hrc.notcells (.map #[] clock)
  refine W_end hte rfl ⟨rfl, hck, b, rc, rm, [], km, rfl, hb', ⟨#[], clock, Hp.upd_same _ _ _, MapAt.clear clock⟩, hrm.ne _ (Ne.symm hne), hne, fun k => ?_, fun k => rfl, Nat.zero_le _, hn2, hok.abort⟩
  have := hm k
  cases e : getK ⟨k.toArray⟩ km with
  | none => rw [e] at this; exact this
  | some u => rw [e] at this; obtain ⟨d, h1, h2⟩ := this; exact ⟨d, h1, h2.ck hck⟩
theorem bytes_HasPrefix (X : Hp) (v w : Value) (b d : Bs) (hb : Bytes X v b) (hd : Bytes X w d) : Trip Tryz.prog 157 #[v, w] X (Pu (.bool (d.isPrefixOf b)) X) := by
  have hd' := hd
  obtain ⟨a, c, rfl, hA, hc⟩ := hb
  obtain ⟨a2, c2, rfl, hA2, hc2⟩ := hd
  refine enter (args := [.slice a b.length c, .slice a2 d.length c2]) Tryz.func157 rfl (by decide) rfl fun w0 => ?_
  refine sx hte rfl ?_
  refine W_guard rfl rfl (fun hb => ?_) (fun hb => ⟨_, rfl, ?_⟩)
  · refine W_ung 11 rfl hb (W_ung 13 rfl hb ?_)
    have hle : d.length ≤ b.length := by simpa using hb
    refine W_cut (l := 0) (h := d.length) hte rfl rfl rfl rfl hA (bcells_length _).symm hc rfl ⟨_, _, rfl, rfl⟩ (by omega) hle fun q c' (hq : Arr _ _ 1 _ _) hc' _ => ⟨_, rfl, ?_⟩
    have e : ((bcells b).drop 0).take (d.length - 0) = bcells (b.take d.length) := by simp [bcells, List.map_take]
    rw [e] at hq
    refine sx hte rfl ?_
    refine W_guard_y rfl rfl hb (W_ung 15 rfl hb ?_)
    have hl : (b.take d.length).length = d.length - 0 := by simp; omega
    refine W_callP rfl rfl (bytes_Equal X (.slice q (d.length - 0) c') _ (b.take d.length) d ⟨q, c', by rw [hl], hq, by rw [hl]; exact hc'⟩ hd') rfl ?_
    refine W_pick (s := .v (.bool (b.take d.length == d))) rfl (by rw [hb]; rfl) rfl ?_
    refine sx hte rfl ?_
    refine W_ret hte rfl ⟨rfl, ?_⟩
    simp only [tup]
    congr 1
    rw [Bool.eq_iff_iff]
    simp only [beq_iff_eq, List.isPrefixOf_iff_prefix]
    refine ⟨fun h => ?_, fun ⟨t, h⟩ => by rw [← h]; simp⟩
    have := List.take_append_drop d.length b
    rw [h] at this
    exact ⟨_, this⟩
  · refine sx hte rfl ?_
    refine W_guard_n rfl rfl hb rfl ?_
    refine W_pick (s := .v (.bool false)) rfl (by rw [hb]; rfl) rfl ?_
    refine sx hte rfl ?_
    refine W_ret hte rfl ⟨rfl, ?_⟩
    simp only [tup]
    congr 1
    have hlt : b.length < d.length := by simpa using hb
    cases e : d.isPrefixOf b with
    | false => rfl
    | true =>
      have := List.isPrefixOf_iff_prefix.1 e
      have := this.length_le
      omega
end Go.Fw
/- The walk of bytes.Compare, over the model's own entry for what it calls. -/
namespace Go.Fw
open Go.Proofs Go.RowKit
section
variable {cx : Cx} {k k' : List It} {σ σ' : Fm} {H H' : Own} {nl nl' : Nat} {X : Hp} {s : SV} {ops : Array Oper} {o : Oper} {rest : List Oper}
/-- A call of a function that has no text: the model's entry gives a value and leaves the world. -/
theorem W_extern {cal : Operand} {args : Array Operand} {tys : Array TypeId} {dst : Option Tmp} {ty : TypeId} {pos : String} {after : Array Edge} {f : FuncId} {fi ca vs : List Value} {v : Value}
    (hc : callee σ cal = some (f, fi, ca)) (ha : evs σ H args.toList = some vs) (hr : ∀ w, Sub X w → (callFunc f (fi ++ vs ++ ca).toArray).run cx.P w = .ok (.value v) w) (hp : putS cx.n dst (.v v) σ = some σ') (h : W cx (.rg ops rest :: k) σ' H nl X) :
    W cx (.rg ops ({ dst := dst, op := .call { callee := .value cal, args := args, argTypes := tys }, type := ty, pos := pos, after := after, guard := none } :: rest) :: k) σ H nl X := by
  refine W_val (s := .v v) (fun a w ρ hok => ⟨?_, trivial⟩) hp h
  have hc' : ev σ cal = some (.v (.func (.func f) ⟨fi⟩ ⟨ca⟩)) := by
    unfold callee at hc
    split at hc
    · rename_i he
      simp only [Option.some.injEq, Prod.mk.injEq] at hc
      obtain ⟨rfl, rfl, rfl⟩ := hc
      exact he
    · cases hc
  have ec := hok.eval hc' trivial
  simp only [SV.den] at ec
  have hm := evs_eval hok.v ha
  simp only [execOp, resolve, ec, hm, Deferred.ofValue, Sem.run_bind, Sem.run_pure, Result.andThen_ok, invoke]
  have : (⟨fi⟩ ++ ⟨vs⟩ : Array Value) ++ ⟨ca⟩ = (fi ++ vs ++ ca).toArray := by
    apply Array.ext'; simp
  rw [this]
  exact hr w hok.sub
end
theorem run_bytesOf {P : Program} {X : Hp} {w : World} (hs : Sub X w) {a : Option Addr} {b : Bs} {c : Nat} (hA : Arr X 5 1 a (bcells b)) : (Extern.Bytes.bytesOf (.slice a b.length c)).run P w = .ok ⟨b.toArray⟩ w := by
  by_cases hne : b = []
  · subst hne
    cases a with
    | none => rfl
    | some q => simp [Extern.Bytes.bytesOf, Extern.Bytes.loadBytes]; rfl
  · obtain ⟨bb, off, fz, cs, rfl, hX, hc⟩ := hA.flat (by intro e; exact hne (by simpa [bcells] using e))
    have := Lib.run_loadBytesX (P := P) w (b.map fun x => (x.toNat : Int)) ⟨bb, off, none⟩ .empty (fun j x hj => by
      rw [addr_add]
      have hjl : j < b.length := by
        rcases Nat.lt_or_ge j b.length with h | h
        · exact h
        · rw [List.getElem?_eq_none (by simpa using h)] at hj; cases hj
      have h1 := hc j (by rw [bcells_flat]; simpa using hjl)
      simp only [World.cell?, hs _ _ hX]
      rw [if_neg (by simp), h1, bcells_flat]
      simp only [List.getElem?_map] at hj ⊢
      cases hq : b[j]? with
      | none => rw [hq] at hj; cases hj
      | some y => rw [hq] at hj; obtain rfl := Option.some.inj hj; rfl)
    simp only [List.length_map] at this
    simp only [Extern.Bytes.bytesOf]
    rw [this]
    congr 1
    apply ByteArray.ext
    simp [Lib.bytesOf]
    apply List.ext_getElem?
    intro i
    simp only [List.getElem?_map]
    cases b[i]? <;> simp
theorem bytes_Compare (X : Hp) (v w : Value) (b d : Bs) (hb : Bytes X v b) (hd : Bytes X w d) : Trip Tryz.prog 160 #[v, w] X (Pu (.int .i64 (Lib.compareBytes b d)) X) := by
  obtain ⟨a, c, rfl, hA, hc⟩ := hb
  obtain ⟨a2, c2, rfl, hA2, hc2⟩ := hd
  refine enter (args := [.slice a b.length c, .slice a2 d.length c2]) Tryz.func160 rfl (by decide) rfl fun w0 => ?_
  refine sx hte rfl ?_
  refine W_extern (v := .int .i64 (Lib.compareBytes b d)) rfl rfl (fun w hs => ?_) rfl ?_
  · show (callFunc 208 #[.slice a b.length c, .slice a2 d.length c2]).run _ w = _
    rw [run_callFunc_extern (fn := Tryz.f208) Tryz.func208 (by kernel_rfl) (by kernel_rfl) (by kernel_rfl) (e := Extern.BytealgCompare.compare) (by kernel_rfl)]
    have : (Extern.BytealgCompare.compare #[.slice a b.length c, .slice a2 d.length c2]).run Tryz.prog w = .ok (.int .i64 (Lib.compareBytes b d)) w := by
      change Sem.run _ (do pure (goInt (Extern.BytealgCompare.cmp (← Extern.Bytes.bytesOf (.slice a b.length c)) (← Extern.Bytes.bytesOf (.slice a2 d.length c2))))) w = _
      simp only [Sem.run_bind, run_bytesOf hs hA, run_bytesOf hs hA2, Result.andThen_ok, Sem.run_pure, Lib.cmp_eq]
      rfl
    rw [this]; rfl
  refine sx hte rfl ?_
  exact W_ret hte rfl ⟨rfl, rfl⟩
theorem compareBytes_lt : ∀ (a b : Bs), decide (Lib.compareBytes a b < 0) = bless a b := by
  intro a
  induction a with
  | nil => intro b; cases b <;> simp [Lib.compareBytes, bless]
  | cons x a ih =>
    intro b
    cases b with
    | nil => simp [Lib.compareBytes, bless]
    | cons y b =>
      simp only [Lib.compareBytes, bless, UInt8.lt_iff_toNat_lt]
      split
      · rfl
      · split
        · rfl
        · exact ih b
end Go.Fw
/- The walk of a view's base in memory: the pairs that were, whose keys begin so, in some order. -/
namespace Go.Fw
open Go.Proofs
theorem IterX.le {X X' : Hp} {b r : Nat} {todo : KV} {cur : Option (ByteArray × Value)} (h : IterX X b r todo cur) (hl : ∀ i o, X i = some o → (∀ cs T fz, o ≠ .cells cs T fz) → X' i = some o) : IterX X' b r todo cur := by
  obtain ⟨es, clock, kv, seen, h1, h2, h3⟩ := h
  exact ⟨es, clock, kv, seen, hl _ _ h1 (fun _ _ _ e => by cases e), hl _ _ h2 (fun _ _ _ e => by cases e), h3⟩
theorem New.nc {Y X : Hp} {E : TypeId} {k : Nat} {p : Option Addr} {c : Nat} {vs : List (List Value)} (h : New Y X E k p c vs) {i : Nat} {o : Obj} (hi : X i = some o) (ho : ∀ cs T fz, o ≠ .cells cs T fz) : Y i = some o := by
  rcases h.2 with ⟨_, _, _, rfl⟩ | ⟨b, sp, _, hb, rfl, _⟩
  · exact hi
  · by_cases e : i = b
    · subst e; rw [Hp.upd_same] at hi; exact absurd (Option.some.inj hi).symm (ho _ _ _)
    · rwa [Hp.upd_ne _ _ e] at hi
theorem New.ty {Y X : Hp} {E : TypeId} {k : Nat} {p : Option Addr} {c : Nat} {vs : List (List Value)} (h : New Y X E k p c vs) {i : Nat} {cs : Array Value} {T : TypeId} {fz : Nat × Nat} (hi : X i = some (.cells cs T fz)) (ho : T ≠ E) : Y i = some (.cells cs T fz) := by
  rcases h.2 with ⟨_, _, _, rfl⟩ | ⟨b, sp, _, hb, rfl, _⟩
  · exact hi
  · by_cases e : i = b
    · subst e; rw [Hp.upd_same] at hi; injection hi with hi; injection hi with _ h2; exact absurd h2.symm ho
    · rwa [Hp.upd_ne _ _ e] at hi
theorem New.bytes {Y X : Hp} {E : TypeId} {k : Nat} {p : Option Addr} {c : Nat} {vs : List (List Value)} (h : New Y X E k p c vs) {v : Value} {d : Bs} (hv : Bytes X v d) (hE : 5 ≠ E) : Bytes Y v d := by
  obtain ⟨a, c, h1, h2, h3⟩ := hv
  exact ⟨a, c, h1, h2.mono fun b cs fz hb => h.ty hb hE, h3⟩
def PairRow (X : Hp) (row : List Value) (p : Bs × Bs) : Prop := ∃ k w, row = [k, w] ∧ Bytes X k p.1 ∧ Bytes X w p.2
def RowsP (X : Hp) : List (List Value) → Tab → Prop
  | [], [] => True
  | r :: rs, p :: ps => PairRow X r p ∧ RowsP X rs ps
  | _, _ => False
theorem RowsP.length {X : Hp} : ∀ {rs : List (List Value)} {ps : Tab}, RowsP X rs ps → rs.length = ps.length := by
  intro rs
  induction rs with
  | nil => intro ps h; cases ps with
    | nil => rfl
    | cons p ps => exact h.elim
  | cons r rs ih => intro ps h; cases ps with
    | nil => exact h.elim
    | cons p ps => simp [ih h.2]
theorem RowsP.snoc {X : Hp} {r : List Value} {p : Bs × Bs} (hr : PairRow X r p) : ∀ {rs : List (List Value)} {ps : Tab}, RowsP X rs ps → RowsP X (rs ++ [r]) (ps ++ [p]) := by
  intro rs
  induction rs with
  | nil => intro ps h; cases ps with
    | nil => exact ⟨hr, trivial⟩
    | cons q ps => exact h.elim
  | cons r' rs ih => intro ps h; cases ps with
    | nil => exact h.elim
    | cons q ps => exact ⟨h.1, ih h.2⟩
theorem RowsP.mono {X X' : Hp} (hx : ∀ v d, Bytes X v d → Bytes X' v d) : ∀ {rs : List (List Value)} {ps : Tab}, RowsP X rs ps → RowsP X' rs ps := by
  intro rs
  induction rs with
  | nil => intro ps h; cases ps with
    | nil => trivial
    | cons q ps => exact h.elim
  | cons r' rs ih => intro ps h; cases ps with
    | nil => exact h.elim
    | cons q ps =>
      obtain ⟨⟨k, w, h1, h2, h3⟩, h4⟩ := h
      exact ⟨⟨k, w, h1, hx _ _ h2, hx _ _ h3⟩, ih h4⟩
/-- The pairs of some keys of a table that begin so. -/
def pairsOf (t : Tab) (pre : Bs) (ks : List Bs) : Tab := (ks.filter fun k => pre.isPrefixOf k).map fun k => (k, (getT k t).getD [])
structure BS where
  todo : KV
  ks : List Bs
  rows : List (List Value)
  p : Option Addr
  c : Nat
  X : Hp
theorem ba_mk (b : ByteArray) : ByteArray.mk b.data.toList.toArray = b := by cases b; simp
theorem getK_mem {e : ByteArray × Value} : ∀ {kv : KV}, (kv.map (·.1)).Nodup → e ∈ kv → getK e.1 kv = some e.2 := by
  intro kv
  induction kv with
  | nil => intro _ h; cases h
  | cons q kv ih =>
    obtain ⟨a, v⟩ := q
    intro hn h
    have hn' := List.nodup_cons.1 hn
    simp only [getK, beq_iff_eq]
    rcases List.mem_cons.1 h with rfl | h
    · simp
    · have : e.1 ≠ a := fun e2 => hn'.1 (by
        have := List.mem_map_of_mem (f := fun p : ByteArray × Value => p.1) h
        rw [e2] at this; exact this)
      rw [if_neg this]
      exact ih hn'.2 h
theorem getK_isSome {k : ByteArray} : ∀ {kv : KV}, (getK k kv).isSome = true ↔ k ∈ kv.map (·.1) := by
  intro kv
  induction kv with
  | nil => simp [getK]
  | cons q kv ih =>
    obtain ⟨a, v⟩ := q
    simp only [getK, beq_iff_eq, List.map_cons, List.mem_cons]
    by_cases e : k = a
    · simp [e]
    · simp [e, ih]
theorem Nw.iter {X Xi : Hp} {E : TypeId} {k : Nat} {p : Option Addr} {c : Nat} {vs : List (List Value)} (h : Nw X Xi E k p c vs) {ib : Nat} {q o : Obj} (hX : X ib = none) (hq : Xi ib = some q) (hc : ∀ cs T fz, q ≠ .cells cs T fz) : Nw X (Xi.upd ib o) E k p c vs := by
  obtain ⟨Xm, hXm, hu, hN⟩ := h
  have hle : Le X (Xm.upd ib o) := fun i z hi => by
    rw [Hp.upd_ne _ _ (fun e => by subst e; rw [hX] at hi; cases hi)]; exact hXm i z hi
  rcases hN with ⟨rfl, rfl, rfl, rfl⟩ | ⟨b, sp, rfl, hb, rfl, h1, h2⟩
  · exact ⟨_, hle, hu, .inl ⟨rfl, rfl, rfl, rfl⟩⟩
  · have hne : ib ≠ b := fun e => by subst e; rw [Hp.upd_same] at hq; exact hc _ _ _ (Option.some.inj hq).symm
    refine ⟨_, hle, hu, .inr ⟨b, sp, rfl, by rw [Hp.upd_ne _ _ (Ne.symm hne)]; exact hb, ?_, h1, h2⟩⟩
    funext i
    by_cases e1 : i = b
    · subst e1; rw [Hp.upd_ne _ _ (Ne.symm hne), Hp.upd_same, Hp.upd_same]
    · by_cases e2 : i = ib
      · subst e2; rw [Hp.upd_same, Hp.upd_ne _ _ hne, Hp.upd_same]
      · rw [Hp.upd_ne _ _ e2, Hp.upd_ne _ _ e1, Hp.upd_ne _ _ e1, Hp.upd_ne _ _ e2]
theorem IterX.obj {X : Hp} {b r : Nat} {todo : KV} {cur : Option (ByteArray × Value)} (h : IterX X b r todo cur) : ∃ q, X b = some q ∧ ∀ cs T fz, q ≠ .cells cs T fz := by
  obtain ⟨es, clock, kv, seen, h1, _⟩ := h
  exact ⟨_, h1, fun _ _ _ e => by cases e⟩
theorem pairsOf_snoc (t : Tab) (pre : Bs) (ks : List Bs) (k : Bs) : pairsOf t pre (ks ++ [k]) = pairsOf t pre ks ++ (if pre.isPrefixOf k then [(k, (getT k t).getD [])] else []) := by
  simp only [pairsOf, List.filter_append, List.map_append]
  congr 1
  by_cases e : pre.isPrefixOf k = true <;> simp [e]
theorem IterX.drop {X : Hp} {b r : Nat} {todo : KV} {cur : Option (ByteArray × Value)} (h : IterX X b r todo cur) : IterX X b r todo none := by
  obtain ⟨es, clock, kv, seen, h1, h2, h3, h4, h5⟩ := h
  exact ⟨es, clock, kv, seen, h1, h2, h3, h4, fun p e => by cases e⟩
theorem view_base (X : Hp) (v kv : Value) (s : VS) (pre : Bs) (h : VM X v s) (hk : Bytes X kv pre) (hn : s.was.length ≤ 1073741824) :
    Trip Tryz.prog 155 #[v, kv] X (Rt fun r X' => ∃ p c rows ks, r = .slice p rows.length c ∧ Nw X X' 124 2 p c rows ∧ RowsP X' rows (pairsOf s.was pre ks) ∧ ks.Nodup ∧ (∀ k, k ∈ ks ↔ (getT k s.was).isSome = true)) := by
  have h' := h
  have hk' := hk
  obtain ⟨b, rc, rm, kc, km, rfl, hb, hrc, hrm, hne, hm, hcg, hn1, hn2, hok⟩ := h
  obtain ⟨a, c, rfl, hA, hc⟩ := hk
  refine enter (args := [.pointer (some ⟨b, 0, none⟩), .slice a pre.length c]) Tryz.func155 rfl (by decide) rfl fun w0 => ?_
  refine W_extp (cs := [.map (some rc), .pointer none, .map (some rm), .int .i64 0]) 0 rfl hb (fun j _ => by simp) ?_
  refine sx hte rfl ?_
  refine W_false rfl (sx hte rfl ?_)
  refine W_range hte mtM rfl hrm fun ib o hib hit => ⟨_, rfl, ?_⟩
  refine sx hte rfl ?_
  refine W_for (ι := BS) (fun i => IterX i.X ib rm i.todo none ∧ Nw X i.X 124 2 i.p i.c i.rows ∧ RowsP i.X i.rows (pairsOf s.was pre i.ks) ∧ (i.ks ++ i.todo.map fun e => e.1.data.toList).Perm (km.map fun e => e.1.data.toList) ∧ (∀ e ∈ i.todo, e ∈ km)) (fun i => i.todo.length) [7]
    (fun i => [(7, .v (.slice i.p i.rows.length i.c))]) [0] (fun _ => []) BS.X ⟨km, [], [], none, 0, _⟩ ⟨hit, ?_, trivial, List.Perm.refl _, fun _ h => h⟩
    ⟨rfl, trivial⟩ trivial rfl rfl rfl fun i hi => ?_
  · exact ⟨_, Le.upd _ hib, New.nil _ _ _⟩
  obtain ⟨todo, ks, rows, p, c', Xi⟩ := i
  obtain ⟨hI, hN, hR, hP, hS⟩ := hi
  simp only at hI hN hR hP hS ⊢
  refine sx hte rfl ?_
  refine W_next rfl hI (fun h0 => ⟨_, rfl, ?_⟩) (fun t1 e t2 o2 ht hI2 => ⟨_, rfl, ?_⟩)
  · refine sx hte rfl ?_
    refine W_false rfl (sx hte rfl ?_)
    subst h0
    simp only [List.map_nil, List.append_nil] at hP
    have hkn : (km.map fun e => e.1.data.toList).Nodup := by
      obtain ⟨es, clock, _, hat⟩ := hrm
      have := hat.keys
      unfold List.Nodup at this ⊢
      rw [List.pairwise_map] at this ⊢
      exact this.imp fun {x y} h e => h (by rw [← ba_mk x.1, e, ba_mk y.1])
    refine W_ret hte rfl ⟨p, c', rows, ks, rfl, hN, hR, hP.nodup_iff.2 hkn, fun k => ?_⟩
    rw [hP.mem_iff]
    have h1 := hm k
    have h2 := getK_isSome (k := ⟨k.toArray⟩) (kv := km)
    constructor
    · intro hk
      obtain ⟨e, he, rfl⟩ := List.mem_map.1 hk
      have h3 : (getK ⟨e.1.data.toList.toArray⟩ km).isSome = true := h2.2 (by rw [ba_mk]; exact List.mem_map_of_mem he)
      cases h4 : getK ⟨e.1.data.toList.toArray⟩ km with
      | none => rw [h4] at h3; cases h3
      | some u => rw [h4] at h1; obtain ⟨d, h5, _⟩ := h1; rw [h5]; rfl
    · intro hk
      cases h4 : getK ⟨k.toArray⟩ km with
      | none => rw [h4] at h1; simp only at h1; rw [h1] at hk; cases hk
      | some u =>
        obtain ⟨e, he, h5⟩ := List.mem_map.1 (h2.1 (by rw [h4]; rfl))
        refine List.mem_map.2 ⟨e, he, ?_⟩
        rw [h5]
  · obtain ⟨q0, hq0, hq1⟩ := hI.obj
    have hck : CK Xi (Xi.upd ib o2) := ck_map (Le.refl _) (fun cs T fz e => by rw [hq0] at e; exact hq1 _ _ _ (Option.some.inj e)) o2
    have hN2 : Nw X (Xi.upd ib o2) 124 2 p c' rows := hN.iter hib hq0 hq1
    have hR2 := hR.mono (fun v d h => h.ck hck)
    generalize Xi.upd ib o2 = Xj at hI2 hN2 hR2 ⊢
    have hem : e ∈ km := hS e (by rw [ht]; simp)
    obtain ⟨d, hd, hdv⟩ : ∃ d, getT e.1.data.toList s.was = some d ∧ Bytes X e.2 d := by
      obtain ⟨es, clock, _, hat⟩ := hrm
      have h1 := hm e.1.data.toList
      rw [ba_mk, getK_mem hat.keys hem] at h1
      exact h1
    have hdl : d.length ≤ 120 := (hok.fit _ (List.mem_append.2 (.inl (getT_mem hd)))).2
    have hlen : rows.length ≤ 1073741824 := by
      have h1 := hR2.length
      have h2 : (pairsOf s.was pre ks).length ≤ ks.length := by simp only [pairsOf, List.length_map]; exact List.length_filter_le _ _
      have h3 := hP.length_eq
      simp only [List.length_append, List.length_map] at h3
      omega
    have hP' : ((ks ++ [e.1.data.toList]) ++ (t1 ++ t2).map fun e => e.1.data.toList).Perm (km.map fun e => e.1.data.toList) := by
      refine List.Perm.trans ?_ hP
      rw [ht]
      simp only [List.map_append, List.map_cons, List.append_assoc, List.singleton_append]
      refine List.Perm.append_left _ ?_
      exact (List.perm_middle).symm
    have hS' : ∀ z ∈ t1 ++ t2, z ∈ km := fun z hz => hS z (by
      rw [ht]
      rcases List.mem_append.1 hz with h | h
      · exact List.mem_append.2 (.inl h)
      · exact List.mem_append.2 (.inr (List.mem_cons_of_mem _ h)))
    have hμ : (t1 ++ t2).length < todo.length := by rw [ht]; simp
    refine sx hte rfl ?_
    refine W_true rfl (sx hte rfl ?_)
    refine W_entry rfl hI2 rfl ?_
    refine sx hte rfl ?_
    refine W_s2b hte rfl rfl rfl rfl rfl rfl rfl fun p1 c1 X1 hL1 hA1 hc1 => ⟨_, rfl, ?_⟩
    refine sx hte rfl ?_
    refine W_callP rfl rfl (bytes_HasPrefix X1 _ _ e.1.data.toList pre ⟨p1, c1, rfl, hA1, hc1⟩ (hk'.ck (hN2.le.trans hL1).ck)) rfl ?_
    refine sx hte rfl ?_
    refine W_if rfl (fun hb => sx hte rfl ?_) (fun hb => sx hte rfl ?_)
    · refine W_s2b hte rfl rfl rfl rfl rfl rfl rfl fun p2 c2 X2 hL2 hA2 hc2 => ⟨_, rfl, ?_⟩
      refine sx hte rfl ?_
      have hL12 := hL1.trans hL2
      refine W_call rfl rfl (bytes_Clone X2 _ d (hdv.ck (hN2.le.trans hL12).ck) (by omega)) ?_
      rintro r X3 ⟨hL3, wa, wc, rfl, hwA, hwc⟩
      refine ⟨hL3.ck.kx, _, rfl, ?_⟩
      refine sx hte rfl ?_
      have hL13 := hL12.trans hL3
      obtain ⟨Y, hY, hNY⟩ := hN2.re hL13
      refine W_app (us := [[_, _]]) hte rfl rfl rfl rfl rfl rfl rfl (by decide) hNY rfl (by simp; rfl) rfl (Src.lab rfl rfl rfl) (by simp [one]) (by simp only [List.length_cons, List.length_nil]; omega) fun p' c3 X' (hN' : New _ _ _ 2 _ _ _) => ⟨_, rfl, ?_⟩
      refine sx hte rfl ?_
      have hb3 : ∀ v z, Bytes X3 v z → Bytes X' v z := fun v z h => (hNY.bytes h (by decide)).ck hN'.le.ck
      have hI3 : IterX X' ib rm (t1 ++ t2) none := hI2.drop.le fun i z hz hnc => hN'.le _ _ (hNY.nc (hL13 _ _ hz) hnc)
      have hrow : PairRow X' [.slice p2 e.1.data.toList.length c2, .slice wa d.length wc] (e.1.data.toList, d) :=
        ⟨_, _, rfl, hb3 _ _ ⟨p2, c2, rfl, hA2.ck hL3.ck, hc2⟩, hb3 _ _ ⟨wa, wc, rfl, hwA, hwc⟩⟩
      have hR3 : RowsP X' (rows ++ [[.slice p2 e.1.data.toList.length c2, .slice wa d.length wc]]) (pairsOf s.was pre (ks ++ [e.1.data.toList])) := by
        rw [pairsOf_snoc, hd, if_pos hb]
        exact (hR2.mono fun v z h => hb3 _ _ (h.ck hL13.ck)).snoc hrow
      refine W_again ⟨t1 ++ t2, ks ++ [e.1.data.toList], _, p', c3, X'⟩ ⟨hI3, Nw.of hY hN', hR3, hP', hS'⟩ hμ ⟨by simp; rfl, trivial⟩ (by repeat first | exact trivial | refine ⟨rfl, ?_⟩) trivial trivial rfl rfl rfl
    · refine W_again ⟨t1 ++ t2, ks ++ [e.1.data.toList], rows, p, c', X1⟩ ⟨hI2.drop.le fun i z hz _ => hL1 _ _ hz, ?_, ?_, hP', hS'⟩ hμ ⟨rfl, trivial⟩ (by repeat first | exact trivial | refine ⟨rfl, ?_⟩) trivial trivial rfl rfl rfl
      · obtain ⟨Y, hY, hNY⟩ := hN2.re hL1
        exact Nw.of hY hNY
      · rw [pairsOf_snoc, hb]
        simp only [Bool.false_eq_true, if_false, List.append_nil]
        exact hR2.mono fun v z h => h.ck hL1.ck
end Go.Fw
/- The walks of the functions that Scan hands over: whether a key was changed, and the order of keys. -/
namespace Go.Fw
open Go.Proofs
section
variable {cx : Cx} {σ : Fm} {X : Hp} {te : Te}
theorem V_load (hte : TeOk cx.P te) {T E : TypeId} {x : Operand} {b off : Nat} {full : Array Value} {fz : Nat × Nat} {cs : List Value} {v : Value} (hx : ev σ x = some (.v (.pointer (some ⟨b, off, none⟩)))) (hX : X b = some (.cells full E fz)) (hc : ∀ j, j < cs.length → full[j]? = cs[j]?) (hv : partO te T cs off = some v) : VOp cx.P σ X (.load T x) v := by
  intro a w o ho hev hs
  have ex := hev _ _ hx
  have hw : Win w (b, 0) cs := ⟨full, E, fz, hs _ _ hX, fun j hj => by simpa using hc j hj⟩
  have := run_loadVar_partO hte hw hv
  simp only [Nat.zero_add] at this
  simp [execOp, ho, ex, Instr.loadAt, Instr.sureAddr, this]
end
theorem scan_cmp (X : Hp) (r1 r2 : List Value) (p1 p2 : Bs × Bs) (h1 : PairRow X r1 p1) (h2 : PairRow X r2 p2) :
    Trip Tryz.prog 159 #[.agg r1.toArray, .agg r2.toArray] X (Pu (.int .i64 (Lib.compareBytes p1.1 p2.1)) X) := by
  obtain ⟨k1, w1, rfl, hk1, hw1⟩ := h1
  obtain ⟨k2, w2, rfl, hk2, hw2⟩ := h2
  refine enter (args := [.agg #[k1, w1], .agg #[k2, w2]]) Tryz.func159 rfl (by decide) rfl fun w0 => ?_
  obtain ⟨a1, c1, rfl, hA1⟩ := hk1
  obtain ⟨a2, c2, rfl, hA2⟩ := hk2
  obtain ⟨a3, c3, rfl, hA3⟩ := hw1
  obtain ⟨a4, c4, rfl, hA4⟩ := hw2
  refine sx hte rfl ?_
  refine W_callP rfl rfl (bytes_Compare X _ _ p1.1 p2.1 ⟨a1, c1, rfl, hA1⟩ ⟨a2, c2, rfl, hA2⟩) rfl ?_
  refine sx hte rfl ?_
  exact W_ret hte rfl ⟨rfl, rfl⟩
theorem scan_changed (X : Hp) (b rc rm cb : Nat) (kc : KV) (r1 : List Value) (p1 : Bs × Bs) (h1 : PairRow X r1 p1)
    (hb : X b = some (.cells #[.map (some rc), .pointer none, .map (some rm), .int .i64 0] 75 (0, 0))) (hrc : MapX X rc kc) (hsh : ∀ k v, getK k kc = some v → ∃ a n c g, v = .agg #[.slice a n c, .bool g])
    (hcb : X cb = some (.cells #[.pointer (some ⟨b, 0, none⟩)] 29 (0, 0))) :
    Trip Tryz.prog 156 #[.agg r1.toArray, .pointer (some ⟨cb, 0, none⟩)] X (Pu (.bool (getK ⟨p1.1.toArray⟩ kc).isSome) X) := by
  obtain ⟨k1, w1, rfl, hk1, hw1⟩ := h1
  refine enter (args := [.agg #[k1, w1], .pointer (some ⟨cb, 0, none⟩)]) Tryz.func156 rfl (by decide) rfl fun w0 => ?_
  obtain ⟨a1, c1, rfl, hA1, hc1⟩ := hk1
  obtain ⟨a3, c3, rfl, hA3⟩ := hw1
  refine W_extp (cs := [.pointer (some ⟨b, 0, none⟩)]) 1 rfl hcb (fun j _ => by simp) ?_
  refine sx hte rfl ?_
  refine W_drawL [] mo (by kernel_rfl) (by kernel_rfl) rfl ?_
  refine dx hte rfl ?_
  refine WD_v (i := 3) rfl rfl (V_load (cs := [.map (some rc), .pointer none, .map (some rm), .int .i64 0]) hte rfl hb (fun j _ => by simp) rfl) rfl ?_
  refine dx hte rfl ?_
  refine WD_v (i := 6) rfl rfl (V_b2s hte rfl rfl rfl rfl rfl rfl rfl hA1 rfl) rfl ?_
  refine dx hte rfl ?_
  obtain ⟨a0, n0, c0, g0, hg0⟩ : ∃ a n c g, (getK ⟨p1.1.toArray⟩ kc).getD (.agg #[.slice none 0 0, .bool false]) = .agg #[.slice a n c, .bool g] := by
    cases e : getK ⟨p1.1.toArray⟩ kc with
    | none => exact ⟨_, _, _, _, rfl⟩
    | some u => obtain ⟨a, n, c, g, h⟩ := hsh _ _ e; exact ⟨a, n, c, g, h⟩
  have hv := fun (σ : Fm) (x y : Operand) hx hy => V_lookup (σ := σ) (X := X) hte mtC (x := x) (y := y) (kv := kc) (r := rc) (s := ⟨p1.1.toArray⟩) hx hy hrc
  rw [hg0] at hv
  refine WD_v (i := 7) rfl rfl (hv _ _ _ rfl rfl) rfl ?_
  repeat refine dx hte rfl (WD_1 rfl (SD_ex1 hte rfl rfl rfl rfl (by repeat first | exact trivial | refine ⟨rfl, ?_⟩) ?_))
  refine dx hte rfl (WD_done rfl (sx hte rfl ?_))
  exact W_ret hte rfl ⟨rfl, rfl⟩
end Go.Fw
/- The walk of slices.IndexFunc at pairs, for whatever predicate. -/
namespace Go.Fw
open Go.Proofs
/-- The first place whose pair is so; -1: none. -/
def idxD (f : Bs × Bs → Bool) : Tab → Int
  | [] => -1
  | p :: ps => if f p then 0 else if idxD f ps = -1 then -1 else idxD f ps + 1
theorem RowsP.at {X : Hp} : ∀ {rs : List (List Value)} {ps : Tab} {i : Nat} {p : Bs × Bs}, RowsP X rs ps → ps[i]? = some p → ∃ r, rs[i]? = some r ∧ PairRow X r p := by
  intro rs
  induction rs with
  | nil => intro ps i p h hi; cases ps with
    | nil => cases hi
    | cons q ps => exact h.elim
  | cons r rs ih => intro ps i p h hi; cases ps with
    | nil => exact h.elim
    | cons q ps =>
      cases i with
      | zero => obtain rfl := Option.some.inj hi; exact ⟨r, rfl, h.1⟩
      | succ i => exact ih h.2 hi
theorem idxD_spec (f : Bs × Bs → Bool) : ∀ ps : Tab, (idxD f ps = -1 ∧ ∀ p ∈ ps, f p = false) ∨ ∃ i : Nat, idxD f ps = i ∧ i < ps.length ∧ (∃ p, ps[i]? = some p ∧ f p = true) ∧ ∀ p ∈ ps.take i, f p = false := by
  intro ps
  induction ps with
  | nil => exact .inl ⟨rfl, fun _ h => by cases h⟩
  | cons p ps ih =>
    simp only [idxD]
    cases hp : f p with
    | true => exact .inr ⟨0, by simp, by simp, ⟨p, rfl, hp⟩, by simp⟩
    | false =>
      simp only [Bool.false_eq_true, if_false]
      rcases ih with ⟨h1, h2⟩ | ⟨i, h1, h2, h3, h4⟩
      · refine .inl ⟨by rw [if_pos h1], fun q hq => ?_⟩
        rcases List.mem_cons.1 hq with rfl | hq
        · exact hp
        · exact h2 q hq
      · refine .inr ⟨i + 1, by rw [h1, if_neg (by omega)]; simp, by simp; omega, ?_, fun q hq => ?_⟩
        · obtain ⟨q, h5, h6⟩ := h3; exact ⟨q, by simpa using h5, h6⟩
        · simp only [List.take_succ_cons] at hq
          rcases List.mem_cons.1 hq with rfl | hq
          · exact hp
          · exact h4 q hq
theorem idxD_at {f : Bs × Bs → Bool} : ∀ {ps : Tab} {i : Nat} {p : Bs × Bs}, (∀ q ∈ ps.take i, f q = false) → ps[i]? = some p → f p = true → idxD f ps = i := by
  intro ps
  induction ps with
  | nil => intro i p _ h; cases h
  | cons q ps ih =>
    intro i p h1 h2 h3
    cases i with
    | zero => obtain rfl := Option.some.inj h2; simp [idxD, h3]
    | succ i =>
      have hq : f q = false := h1 q (by simp)
      have := ih (i := i) (fun r hr => h1 r (by simp [List.take_succ_cons, hr])) (by simpa using h2) h3
      simp only [idxD, hq, Bool.false_eq_true, if_false, this]
      rw [if_neg (by omega)]; simp
theorem idxD_none {f : Bs × Bs → Bool} : ∀ {ps : Tab}, (∀ q ∈ ps, f q = false) → idxD f ps = -1 := by
  intro ps
  induction ps with
  | nil => intro _; rfl
  | cons q ps ih =>
    intro h
    simp [idxD, h q (by simp), ih (fun r hr => h r (by simp [hr]))]
structure IS where
  i : Nat
  X : Hp
theorem idx_Pair (X : Hp) (g : FuncId) (ca : List Value) (del : Bs × Bs → Bool) (p : Option Addr) (c : Nat) (rows : List (List Value)) (ps : Tab) (hA : Arr X 124 2 p rows) (hR : RowsP X rows ps) (hn : rows.length ≤ 2147483000)
    (hdel : ∀ X1, Le X X1 → ∀ row q, PairRow X1 row q → Trip Tryz.prog g ([Value.agg row.toArray] ++ ca).toArray X1 (Rt fun r X' => r = .bool (del q) ∧ Le X1 X')) :
    Trip Tryz.prog 205 #[.slice p rows.length c, .func (.func g) #[] ⟨ca⟩] X (Rt fun r X' => Le X X' ∧ r = .int .i64 (idxD del ps)) := by
  refine enter (args := [.slice p rows.length c, .func (.func g) #[] ⟨ca⟩]) Tryz.func205 rfl (by decide) rfl fun w0 => ?_
  refine sx hte rfl ?_
  refine W_for (ι := IS) (fun i => i.i ≤ rows.length ∧ Le X i.X ∧ ∀ q ∈ ps.take i.i, del q = false) (fun i => rows.length - i.i) [8, 5]
    (fun i => [(8, .v (.int .i64 i.i))]) [] (fun _ => []) IS.X ⟨0, X⟩ ⟨Nat.zero_le _, Le.refl _, by simp⟩
    ⟨rfl, trivial⟩ trivial rfl rfl rfl fun i hi => ?_
  obtain ⟨i, Xi⟩ := i
  obtain ⟨hi, hL, hf⟩ := hi
  simp only at hi hL hf ⊢
  refine sx hte rfl ?_
  have hlen := hR.length
  refine W_if rfl (fun hc => sx hte rfl ?_) (fun hc => sx hte rfl ?_)
  · simp only [decide_eq_true_eq] at hc
    have hi' : i < ps.length := by omega
    obtain ⟨row, hrow, hpr⟩ := hR.at (List.getElem?_eq_getElem hi')
    have hpr' : PairRow Xi row ps[i] := by
      obtain ⟨k, w, h1, h2, h3⟩ := hpr
      exact ⟨k, w, h1, h2.ck hL.ck, h3.ck hL.ck⟩
    have hpr2 := hpr'
    obtain ⟨k, w, rfl, _, _⟩ := hpr'
    refine W_idx (m := i) hte rfl rfl rfl rfl rfl (hA.ck hL.ck) rfl (by omega) hrow rfl fun b o => ?_
    refine sx hte rfl ?_
    refine W_call rfl rfl (hdel Xi hL _ _ hpr2) ?_
    rintro r X' ⟨rfl, hL'⟩
    refine ⟨hL'.ck.kx, _, rfl, ?_⟩
    refine sx hte rfl ?_
    refine W_if rfl (fun hd => sx hte rfl ?_) (fun hd => sx hte rfl ?_)
    · refine W_ret hte rfl ⟨hL.trans hL', ?_⟩
      rw [idxD_at hf (List.getElem?_eq_getElem hi') hd]; rfl
    · refine W_again ⟨i + 1, X'⟩ ⟨by dsimp only; omega, hL.trans hL', fun q hq => ?_⟩ (by dsimp only; omega) ⟨?_, trivial⟩ (by repeat first | exact trivial | refine ⟨rfl, ?_⟩) trivial trivial rfl rfl rfl
      · rw [List.take_succ_eq_append_getElem hi'] at hq
        rcases List.mem_append.1 hq with h | h
        · exact hf q h
        · obtain rfl := List.mem_singleton.1 h; exact hd
      · show some (SV.v (.int .i64 _)) = _
        rw [i64_wrap (by omega) (by omega)]; simp
  · simp only [decide_eq_false_iff_not] at hc
    have hi' : i = ps.length := by omega
    subst hi'
    rw [List.take_length] at hf
    refine W_ret hte rfl ⟨hL, ?_⟩
    rw [idxD_none hf]; rfl
end Go.Fw
/- The walk of slices.DeleteFunc at pairs, for whatever predicate. -/
namespace Go.Fw
open Go.Proofs
theorem New.front {Y X : Hp} {E : TypeId} {k : Nat} {p : Option Addr} {c : Nat} {vs zs : List (List Value)} (h : New Y X E k p c (vs ++ zs)) : New Y X E k p c vs := by
  obtain ⟨hu, hN⟩ := h
  refine ⟨fun v hv => hu v (List.mem_append.2 (.inl hv)), ?_⟩
  rcases hN with ⟨h0, h1, h2, h3⟩ | ⟨b, sp, h1, h2, h3, h4, h5⟩
  · exact .inl ⟨(List.append_eq_nil_iff.1 h0).1, h1, h2, h3⟩
  · refine .inr ⟨b, zs.flatten ++ sp, h1, h2, by rw [h3]; simp, by rw [← h4]; simp, ?_⟩
    simp only [List.length_append] at h5; omega
theorem RowsP.take {X : Hp} : ∀ {rs : List (List Value)} {ps : Tab} (n : Nat), RowsP X rs ps → RowsP X (rs.take n) (ps.take n) := by
  intro rs
  induction rs with
  | nil => intro ps n h; cases ps with
    | nil => simpa using h
    | cons q ps => exact h.elim
  | cons r rs ih => intro ps n h; cases ps with
    | nil => exact h.elim
    | cons q ps => cases n with
      | zero => trivial
      | succ n => exact ⟨h.1, ih n h.2⟩
structure DS where
  i : Nat
  j : Nat
  rows : List (List Value)
  X : Hp
theorem filter_all {f : Bs × Bs → Bool} : ∀ {l : Tab}, (∀ q ∈ l, f q = true) → l.filter f = l := fun h => List.filter_eq_self.2 h
theorem del_Pair (X Y : Hp) (g : FuncId) (ca : List Value) (del : Bs × Bs → Bool) (p : Option Addr) (c : Nat) (rows : List (List Value)) (ps : Tab) (hN : New Y X 124 2 p c rows) (hR : RowsP Y rows ps) (hn : rows.length ≤ 2147483000)
    (hdel : ∀ X1, Le Y X1 → ∀ row q, PairRow X1 row q → Trip Tryz.prog g ([Value.agg row.toArray] ++ ca).toArray X1 (Rt fun r X' => r = .bool (del q) ∧ Le X1 X')) :
    Trip Tryz.prog 154 #[.slice p rows.length c, .func (.func g) #[] ⟨ca⟩] X (Rt fun r X' => ∃ p' c' rows', r = .slice p' rows'.length c' ∧ Nw Y X' 124 2 p' c' rows' ∧ RowsP X' rows' (ps.filter fun q => !del q)) := by
  have hlen := hR.length
  have hY : Le Y X := hN.le
  refine enter (args := [.slice p rows.length c, .func (.func g) #[] ⟨ca⟩]) Tryz.func154 rfl (by decide) rfl fun w0 => ?_
  refine sx hte rfl ?_
  refine W_call rfl rfl (idx_Pair X g ca del p c rows ps hN.arr (hR.mono fun v d h => h.ck hY.ck) hn (fun X1 h => hdel X1 (hY.trans h))) ?_
  rintro r X1 ⟨hL1, rfl⟩
  refine ⟨hL1.ck.kx, _, rfl, ?_⟩
  refine sx hte rfl ?_
  obtain ⟨Y1, hY1, hN1⟩ := (Nw.of (Le.refl Y) hN).re hL1
  rcases idxD_spec del ps with ⟨hm, hall⟩ | ⟨i0, hm, hi0, ⟨q0, hq0, hdq⟩, hbef⟩
  · rw [hm]
    refine W_true rfl (sx hte rfl ?_)
    refine W_ret hte rfl ⟨p, c, rows, rfl, ⟨Y1, hY1, hN1⟩, ?_⟩
    rw [filter_all (fun q hq => by rw [hall q hq]; rfl)]
    exact hR.mono fun v d h => h.ck (hY.trans hL1).ck
  rw [hm]
  refine W_if rfl (fun h => ?_) (fun _ => sx hte rfl ?_)
  · simp at h
  refine W_int 15 rfl (show _ = ((i0 + 1 : Nat) : Int) by rw [i64_wrap (by omega) (by omega)]; simp) ?_
  refine W_int 6 rfl (show _ = ((i0 + 1 : Nat) : Int) by rw [i64_wrap (by omega) (by omega)]; simp) ?_
  refine W_for (ι := DS) (fun s => s.i < s.j ∧ s.j ≤ rows.length ∧ s.rows.length = rows.length ∧ s.rows.drop s.j = rows.drop s.j ∧ RowsP Y (s.rows.take s.i) ((ps.take s.j).filter fun q => !del q) ∧ Nw Y s.X 124 2 p c s.rows) (fun s => rows.length - s.j) [5, 6, 7, 15]
    (fun s => [(5, .v (.int .i64 s.i)), (6, .v (.int .i64 s.j))]) [] (fun _ => []) DS.X ⟨i0, i0 + 1, rows, X1⟩ ⟨Nat.lt_succ_self _, by dsimp only; omega, rfl, rfl, ?_, ⟨Y1, hY1, hN1⟩⟩
    ⟨rfl, rfl, trivial⟩ trivial rfl rfl rfl fun s hs => ?_
  · have e : (ps.take (i0 + 1)).filter (fun q => !del q) = ps.take i0 := by
      have e1 : ps.take (i0 + 1) = ps.take i0 ++ [q0] := by
        rw [List.take_succ_eq_append_getElem hi0]
        rw [List.getElem?_eq_getElem hi0] at hq0
        rw [Option.some.inj hq0]
      rw [e1, List.filter_append, filter_all (fun q hq => by rw [hbef q hq]; rfl)]
      simp [hdq]
    rw [e]
    exact hR.take i0
  obtain ⟨i, j, rs, Xi⟩ := s
  obtain ⟨hij, hjn, hrl, hdr, hRi, hNi⟩ := hs
  simp only at hij hjn hrl hdr hRi hNi ⊢
  refine sx hte rfl ?_
  refine W_if rfl (fun hc => sx hte rfl ?_) (fun hc => sx hte rfl ?_)
  · simp only [decide_eq_true_eq] at hc
    have hj : j < ps.length := by omega
    obtain ⟨row, hrow, hpr⟩ := hR.at (List.getElem?_eq_getElem hj)
    have hrow' : rs[j]? = some row := by
      have := congrArg (fun l : List (List Value) => l[0]?) hdr
      simp only [List.getElem?_drop, Nat.add_zero] at this
      rw [this]; exact hrow
    have hprY := hpr
    have hLi : Le Y Xi := hNi.le
    have hprX : PairRow Xi row ps[j] := by
      obtain ⟨k, w, h1, h2, h3⟩ := hpr
      exact ⟨k, w, h1, h2.ck hLi.ck, h3.ck hLi.ck⟩
    obtain ⟨k, w, rfl, ⟨ka, kc, rfl, hk⟩, ⟨wa, wc, rfl, hw⟩⟩ := hpr
    refine W_idx (m := j) hte rfl rfl rfl rfl rfl hNi.arr rfl (by omega) hrow' rfl fun b o => ?_
    refine sx hte rfl ?_
    refine W_call rfl rfl (hdel Xi hLi _ _ hprX) ?_
    rintro r X2 ⟨rfl, hL2⟩
    refine ⟨hL2.ck.kx, _, rfl, ?_⟩
    obtain ⟨Y2, hY2, hN2⟩ := hNi.re hL2
    refine sx hte rfl ?_
    have etk : ps.take (j + 1) = ps.take j ++ [ps[j]] := List.take_succ_eq_append_getElem hj
    refine W_if rfl (fun hd => sx hte rfl ?_) (fun hd => sx hte rfl ?_)
    · refine W_idxN (m := i) hte rfl rfl rfl rfl rfl hN2 hrl.symm rfl (by omega) fun bb hbb => ⟨_, rfl, ?_⟩
      subst hbb
      obtain ⟨u, hu⟩ : ∃ u, rs[i]? = some u := ⟨_, List.getElem?_eq_getElem (by omega)⟩
      have hul : u.length = 2 := hN2.1 u (List.mem_of_getElem? hu)
      refine W_stN (m := i) (off := 0) (u := u) hte rfl rfl rfl rfl rfl hN2 rfl hu (by decide) rfl fun X3 hN3 => ?_
      have eput : putL u 0 (cellsL (.agg #[.slice ka ps[j].1.length kc, .slice wa ps[j].2.length wc])) = [.slice ka ps[j].1.length kc, .slice wa ps[j].2.length wc] := by
        match u, hul with
        | [x, y], _ => rfl
      rw [eput] at hN3
      refine sx hte rfl ?_
      refine W_again ⟨i + 1, j + 1, rs.set i [.slice ka ps[j].1.length kc, .slice wa ps[j].2.length wc], X3⟩ ⟨by dsimp only; omega, by dsimp only; omega, by simpa using hrl, ?_, ?_, ⟨Y2, hY2, hN3⟩⟩ (by dsimp only; omega) ⟨?_, ?_, trivial⟩ (by repeat first | exact trivial | refine ⟨rfl, ?_⟩) trivial trivial rfl rfl rfl
      · dsimp only
        rw [List.drop_set_of_lt (by omega)]
        have := congrArg (List.drop 1) hdr
        simpa [List.drop_drop] using this
      · dsimp only
        rw [etk, List.filter_append]
        have hdj : del ps[j] = false := by simpa using hd
        have e1 : (rs.set i [Value.slice ka ps[j].1.length kc, .slice wa ps[j].2.length wc]).take (i + 1) = rs.take i ++ [[.slice ka ps[j].1.length kc, .slice wa ps[j].2.length wc]] := by
          rw [List.take_succ_eq_append_getElem (by simp; omega)]
          simp [List.take_set_of_le]
        rw [e1]
        have e2 : [ps[j]].filter (fun q => !del q) = [ps[j]] := by simp [hdj]
        rw [e2]
        exact hRi.snoc hprY
      · show some (SV.v (.int .i64 _)) = _
        rw [i64_wrap (by omega) (by omega)]; simp
      · show some (SV.v (.int .i64 _)) = _
        rw [i64_wrap (by omega) (by omega)]; simp
    · have hdj : del ps[j] = true := by simpa using hd
      refine W_again ⟨i, j + 1, rs, X2⟩ ⟨by dsimp only; omega, by dsimp only; omega, hrl, ?_, ?_, ⟨Y2, hY2, hN2⟩⟩ (by dsimp only; omega) ⟨rfl, ?_, trivial⟩ (by repeat first | exact trivial | refine ⟨rfl, ?_⟩) trivial trivial rfl rfl rfl
      · dsimp only
        have := congrArg (List.drop 1) hdr
        simpa [List.drop_drop] using this
      · dsimp only
        rw [etk, List.filter_append]
        have e2 : [ps[j]].filter (fun q => !del q) = [] := by simp [hdj]
        rw [e2, List.append_nil]
        exact hRi
      · show some (SV.v (.int .i64 _)) = _
        rw [i64_wrap (by omega) (by omega)]; simp
  · simp only [decide_eq_false_iff_not] at hc
    have hjn' : j = ps.length := by omega
    subst hjn'
    rw [List.take_length] at hRi
    obtain ⟨Yi, hYi, hNi'⟩ := hNi
    have hcap := hNi'.cap
    refine W_cut (l := i) (h := rs.length) hte rfl rfl rfl rfl hNi'.arr hrl.symm (by omega) ⟨_, _, rfl, rfl⟩ hrl (by omega) (by omega) fun q c2 _ _ ⟨hqe, _⟩ => ⟨_, rfl, ?_⟩
    refine W_clearN (m := i) hte rfl rfl rfl rfl rfl rfl rfl hNi' (by omega) rfl (fun _ => by rw [hqe, if_neg (by omega)]) fun X2 hN2 => ⟨_, rfl, ?_⟩
    refine sx hte rfl ?_
    have hN2 : New Yi X2 124 2 p c _ := hN2
    have hf := hN2.front
    have hrr : rows.length = (rs.take i ++ List.replicate (rs.length - i) (cellsL (.agg #[.slice none 0 0, .slice none 0 0]))).length := by simp; omega
    refine W_cut (l := 0) (h := i) hte rfl rfl rfl rfl hN2.arr hrr (by omega) rfl ⟨_, _, rfl, rfl⟩ (by omega) (by omega) fun q2 c3 _ _ ⟨hqe2, hce⟩ => ⟨_, rfl, ?_⟩
    refine sx hte rfl ?_
    have hci : c ≠ 0 := by omega
    have ep : q2 = p := by
      rw [hqe2, if_neg hci]
      rcases hN2.2 with ⟨_, h1, _⟩ | ⟨b, sp, h1, _⟩
      · rw [h1]; rfl
      · rw [h1]; simp [addr_add]
    have hil : i = (rs.take i).length := by simp; omega
    refine W_ret hte rfl ⟨p, c, rs.take i, ?_, Nw.of hYi hf, ?_⟩
    · rw [ep, hce, ← hil]; rfl
    · exact hRi.mono fun v d h => h.ck (hYi.trans hN2.le).ck
end Go.Fw
