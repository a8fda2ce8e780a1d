/- ConsoleTells: what the law's function gives, for every argument and every world. -/
import Derived.Test.YtenlpijbhhfahaaGreatDoorPrf
set_option linter.all false
namespace Go.Proofs.YtenlpijbhhfahaaGreatDoor
open Go Go.ChangeShapes Go.WideShapes Go.ChangeAt Go.RowKit

set_option maxRecDepth 100000
/-- WHAT THE WALK GIVES, FOR EVERY ARGUMENT AND EVERY WORLD. -/
theorem tells_contract (H : Type) (enc : TypeId × Value → H) (W : World) (base : Nat) (args : Array Value) (ds gs : List (DataW H)) (before : List MemPlace)
    (hval : ∀ (j : Nat) t v, Tryz.f4.params[j]? = some t → args[j]? = some v → Value.okWide Tryz.prog W .any base t v)
    (hW : DataW.Whole enc Tryz.prog Tryz.f4.params.toList Rows.consoleTellsSpec.vars false W args.toList ds gs before)
    (hz : (DataW.weightsEach Tryz.prog (Tryz.f4.params.toList ++ []) (ds ++ gs)).all (· ≤ reachBytes) = true) (hsh : W.ShapedOpen Tryz.prog) :
    Calls Tryz.prog 4 args W fun e W' => ∃ v, e = .returned v ∧ Rows.consoleTellsSpec.post enc Tryz.prog Tryz.f4 false true false false W args v W' := by
  have hW' := hW
  obtain ⟨p, q, hA0, hV, rfl, hfz, hnd⟩ := hW
  have hA : DataW.TrodAll enc Tryz.prog W 0 (fun _ => true) true Tryz.f4.params.toList args.toList ds p := hA0
  rw [Tryz.params4] at hA hval hz
  obtain ⟨v0, vs0, d0, ds0, p0, q0, hargs, rfl, rfl, h0, r0⟩ := trodAll_cons hA
  obtain ⟨rfl, rfl, rfl⟩ := trodAll_nil r0
  obtain rfl : args = #[v0] := by cases args; simp_all
  obtain ⟨rfl, rfl⟩ := trodVars_none hV
  obtain ⟨err, off, line, col, g, a, x, wh, rfl, rfl, rfl, w0, w4, w5, w6, w1, w2, w3, w7⟩ := open_problem (hval 0 35 v0 rfl rfl) h0
  clear hA0
  simp only [List.append_nil] at hW' hz
  obtain ⟨m, hm⟩ := Tryz.laysM143.s1_3 W hsh
  have hm : W.cell? ⟨0, 0, none⟩ = some (.int .i64 m) := hm
  have lim : ∀ n, (Lit.int .i64 n).wf = true → n < 9223372036854775808 := fun n hn => by
    have e : IntKind.i64.max = 9223372036854775807 := by decide
    simp only [Lit.wf, Bool.and_eq_true, decide_eq_true_eq] at hn
    have := hn.2
    rw [e] at this
    omega
  have hr : reachBytes < 140737488355328 := by decide
  have hzs : g.data.toList.length ≤ reachBytes ∧ a.data.toList.length ≤ reachBytes ∧ x.data.toList.length ≤ reachBytes ∧ wh.data.toList.length ≤ reachBytes := by
    simp only [DataW.weightsEach, DataW.weights, Tryz.underlying35, Tryz.underlying31, Tryz.underlying33, List.toList_toArray, List.map_cons, List.map_nil, List.cons_append, List.nil_append, List.append_nil, List.all_cons, List.all_nil, Bool.and_true, Bool.and_eq_true, decide_eq_true_eq] at hz
    exact ⟨hz.1, hz.2.1, hz.2.2.1, hz.2.2.2⟩
  have walk := tells err off line col g.data.toList a.data.toList x.data.toList wh.data.toList (lim _ w0) (lim _ w5) (lim _ w6) (by omega) (by omega) (by omega) (by omega) W hm
  refine walk.mono fun e W' ⟨he, hb⟩ => ?_
  subst he
  exact ⟨_, rfl, post_of_below (pa := []) (pv := []) hW' (fun _ _ _ => trodAll_cons_mk (shut_bool Tryz.underlying4 _) trodAll_mk0) (fun _ _ => trodAll_cons_mk (shut_problem w0 w4 w5 w6 w1 w2 w3 w7) trodAll_mk0) (fun _ _ => rfl) rfl
    hb (ok_one (by kernel_rfl) rfl (okWide_bool_mk Tryz.underlying4 _))⟩


end Go.Proofs.YtenlpijbhhfahaaGreatDoor
