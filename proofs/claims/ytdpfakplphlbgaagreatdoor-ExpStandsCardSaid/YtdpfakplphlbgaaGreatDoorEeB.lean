import Derived.Test.YtdpfakplphlbgaaGreatDoorCards
import Derived.Test.YtdpfakplphlbgaaGreatDoorTie
import Derived.Test.YtdpfakplphlbgaaGreatDoorMg
import Derived.WalkKit
import Derived.ProofKit
import Derived.OpenShut
import Derived.Deep.DeepHandedRow
import Derived.Lib.LaidTab
import Derived.Carry
/- ExpStands: what the walk gives the row. -/
namespace Go.Proofs.YtdpfakplphlbgaaGreatDoor.expStands
open Go.ChangeShapes Go.WideShapes Go.ChangeAt Go.RowKit
open Go.Fw (hpOf hpOf_sub)
theorem own : ownKnob Tryz.prog.godebug = none := by kernel_rfl
/-- What a contract over a world's cells leaves as it was: every block that was there. -/
theorem below_of {W W' : World} {X' : Go.Fw.Hp} (h1 : Go.Fw.Sub X' W') (h2 : Go.Fw.Ev (hpOf W) W W') (h3 : Go.Fw.CK (hpOf W) X') : Below W.heap.size W W' := by
  refine ⟨h2.os, h2.tape, h2.output, h2.size, fun k hk => ?_⟩
  have e : W.heap[k]? = some W.heap[k] := Array.getElem?_eq_getElem hk
  cases ho : W.heap[k] with
  | cells c T f =>
    rw [ho] at e
    have hX : hpOf W k = some (.cells c T f) := by unfold hpOf; rw [e]
    rw [e, h1 _ _ (h3 _ _ _ _ hX)]
  | map es clock =>
    rw [ho] at e
    have hX : hpOf W k = none := by unfold hpOf; rw [e]
    rw [e, h2.keep _ _ e hX]
  | _ =>
    rw [ho] at e
    have hX : hpOf W k = none := by unfold hpOf; rw [e]
    rw [e, h2.keep _ _ e hX]
set_option maxRecDepth 100000 in
theorem contract (H : Type) (enc : TypeId × Value → H) (W : World) (base : Nat) (args : Array Value) (ds gs : List (DataW H)) (before : List MemPlace)
    (hval : ∀ (j : Nat) t v, Tryz.f3.params[j]? = some t → args[j]? = some v → Value.okWide Tryz.prog W .any base t v)
    (hW : DataW.Whole enc Tryz.prog Tryz.f3.params.toList Rows.expStandsSpec.vars false W args.toList ds gs before) :
    Calls Tryz.prog 3 args W fun e W' => ∃ v, e = .returned v ∧ Rows.expStandsSpec.post enc Tryz.prog Tryz.f3 false true false false W args v W' := by
  have hW' := hW
  obtain ⟨p, q, hA0, hV, rfl, hfz, hnd⟩ := hW
  have hA : DataW.TrodAll enc Tryz.prog W 0 (fun _ => true) true Tryz.f3.params.toList args.toList ds p := hA0
  rw [Tryz.params3] at hA hval
  obtain ⟨v0, v1, d0, d1, p0, p1, rfl, rfl, rfl, h0, h1⟩ := trodAll_two hA
  obtain ⟨rfl, rfl⟩ := trodVars_none hV
  have k0 := h0
  have k1 := h1
  obtain ⟨a0, l0, c0, rfl⟩ := okWide_slice Tryz.underlying22 (hval 0 22 v0 rfl rfl)
  obtain ⟨a1, l1, c1, rfl⟩ := okWide_slice Tryz.underlying23 (hval 1 23 v1 rfl rfl)
  obtain ⟨f0, g0⟩ := h0
  obtain ⟨f1, g1⟩ := h1
  obtain ⟨q0, ns, E0, cc0, e0, A0, R0⟩ := Go.Fw.open_nodes g0
  obtain ⟨q1, ws, E1, cc1, e1, A1, R1⟩ := Go.Fw.open_dos g1
  simp [Value.cells] at e0 e1
  obtain ⟨rfl, rfl, rfl⟩ := e0
  obtain ⟨rfl, rfl, rfl⟩ := e1
  have walk := (Go.Fw.law_ExpStands (hpOf W) a0 a1 ns ws c0 c1 A0 A1 R1 R0).2 W (hpOf_sub W)
  refine walk.mono fun e W' hw => ?_
  obtain ⟨X', s1, s2, _, hq⟩ := hw
  cases e with
  | returned v =>
    obtain ⟨hck, rfl⟩ := hq
    have hb := below_of s1 s2 hck
    have hlt : ∀ x ∈ p0 ++ p1 ++ [], x.block < W.heap.size := fun x hx => hW'.lt x hx
    refine ⟨_, rfl, [d0, d1], [], p0 ++ p1 ++ [], [], p0 ++ (p1 ++ []), [], hW', ?_, ?_, rfl, hb.frame _, fun h => by cases h⟩
    · exact trodAll_mk1 (shut_bool Tryz.underlying4 _)
    · rw [Tryz.params3]
      exact trodAll_cons_mk (Below.trod (by kernel_rfl) (by kernel_rfl) (of_decide_eq_true (by kernel_rfl)) k0 hb fun x hx => hlt x (by simp [hx]))
        (trodAll_cons_mk (Below.trod (by kernel_rfl) (by kernel_rfl) (of_decide_eq_true (by kernel_rfl)) k1 hb fun x hx => hlt x (by simp [hx])) trodAll_mk0)
  | _ => exact hq.elim

end Go.Proofs.YtdpfakplphlbgaaGreatDoor.expStands
