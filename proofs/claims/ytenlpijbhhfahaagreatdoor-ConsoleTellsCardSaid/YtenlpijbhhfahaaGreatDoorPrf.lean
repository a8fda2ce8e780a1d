/- ConsoleTells: of any problem the law's function returns true, and the problem reads as it did. Conditions: the listed variables start as the program's text lays them. -/
import Derived.Test.YtenlpijbhhfahaaGreatDoorCards
import Derived.Test.YtenlpijbhhfahaaGreatDoorTie
import Derived.Test.YtenlpijbhhfahaaGreatDoorTellC
import Derived.WalkKit
import Derived.ProofKit
import Derived.OpenShut
import Derived.Carry
import Derived.Deep.DeepHandedRow
import Derived.Lib.LaidTab
set_option linter.all false
namespace Go.Proofs.YtenlpijbhhfahaaGreatDoor
open Go Go.ChangeShapes Go.WideShapes Go.ChangeAt Go.RowKit

section
variable {H : Type} {enc : TypeId × Value → H} {P : Program}
theorem post_of_below {f : Func} {s : ChangeSpec} {apart fresh handsOn again : Bool} {W W' : World} {args : Array Value} {v : Value} {ds gs : List (DataW H)} {before pa pv : List MemPlace}
    (hW : DataW.Whole enc P f.params.toList s.vars apart W args.toList ds gs before)
    (hres : ∀ (b : Nat) (sp : Nat → Bool) (hd : Bool), DataW.TrodAll enc P W' b sp hd f.resultTypes.toList (v.resultList f.resultTypes.size) (s.fn H (ds ++ gs)).results [])
    (hargs : ∀ sp : Nat → Bool, (∀ p ∈ before, sp p.block = true) → DataW.TrodAll enc P W' 0 sp true f.params.toList args.toList (s.fn H (ds ++ gs)).args pa)
    (hvars : ∀ sp : Nat → Bool, (∀ p ∈ before, sp p.block = true) → DataW.TrodVars enc P W' sp s.vars (s.fn H (ds ++ gs)).vars pv)
    (hps : before = pa ++ pv) (hb : Below W.heap.size W W')
    (hok : ∀ (j : Nat) (t : TypeId) (r : Value), f.resultTypes[j]? = some t → (v.resultList f.resultTypes.size)[j]? = some r → Value.okWide P W' .any 0 t r) :
    s.post enc P f apart fresh handsOn again W args v W' := by
  have hlt : ∀ p ∈ before, p.block < W.heap.size := fun p hp => hW.lt p hp
  have hold : ∀ p ∈ before, (fun b => decide (b < W.heap.size)) p.block = true := fun p hp => by simpa using hlt p hp
  refine ⟨ds, gs, before, [], pa, pv, hW, hres _ _ _, hargs _ hold, hvars _ hold, World.keptBut_mono (fun p hp => ⟨hp, ?_⟩) (hb.frame (· ∈ before)), fun _ => ?_⟩
  · rw [hps, List.mem_append] at hp
    exact Or.inr hp
  · obtain ⟨_, _, _, _, _, hz, hn⟩ := hW
    refine ⟨hok, _, _, ([] ++ pa) ++ pv, ⟨[] ++ pa, pv, trodAll_append (hargs _ (fun _ _ => rfl)) (hres _ _ _), hvars _ (fun _ _ => rfl), rfl, ?_, ?_⟩, ?_⟩
    · intro b off hp
      have hin : MemPlace.cell b off ∈ before := by rw [hps]; simpa using hp
      rw [hb.frozen (hlt _ hin)]
      exact hz b off hin
    · intro ha
      have := hn ha
      rw [hps] at this
      simpa using this
    · intro p hp _
      rw [hps]
      simpa using hp
end

theorem own : ownKnob Tryz.prog.godebug = none := by kernel_rfl

-- a problem, read

theorem c35 : Tryz.prog.cellsOf 35 = 8 := by kernel_rfl
theorem c31 : Tryz.prog.cellsOf 31 = 3 := by kernel_rfl
theorem c33 : Tryz.prog.cellsOf 33 = 3 := by kernel_rfl
theorem c29 : Tryz.prog.cellsOf 29 = 1 := by kernel_rfl
theorem c9 : Tryz.prog.cellsOf 9 = 1 := by kernel_rfl
theorem c3 : Tryz.prog.cellsOf 3 = 1 := by kernel_rfl

section
variable {H : Type} {enc : TypeId × Value → H} {w : World} {base : Nat} {spare : Nat → Bool} {held : Bool}

theorem open_three {t : TypeId} {fuel : Nat} {cs : List Value} {x : DataW H × List MemPlace} {f0 f1 f2 : Field} (hs : Tryz.prog.underlying t = some (.struct #[f0, f1, f2])) (h : DataW.trod enc Tryz.prog w base spare held fuel t cs = some x) :
    ∃ y0 y1 y2 n, fuel = n + 1 ∧ x = (.agg [y0.1, y1.1, y2.1], y0.2 ++ (y1.2 ++ y2.2)) ∧ cs.length = Tryz.prog.cellsOf t ∧
      DataW.trod enc Tryz.prog w base spare held n f0.type ((cs.drop f0.offset).take (Tryz.prog.cellsOf f0.type)) = some y0 ∧
      DataW.trod enc Tryz.prog w base spare held n f1.type ((cs.drop f1.offset).take (Tryz.prog.cellsOf f1.type)) = some y1 ∧
      DataW.trod enc Tryz.prog w base spare held n f2.type ((cs.drop f2.offset).take (Tryz.prog.cellsOf f2.type)) = some y2 := by
  obtain ⟨xs, n, hn, rfl, hl, hlen, hf⟩ := DataW.trod_struct hs h
  match xs, hlen with
  | [y0, y1, y2], _ => exact ⟨y0, y1, y2, n, hn, by simp, hl, by simpa using hf 0 f0 rfl, by simpa using hf 1 f1 rfl, by simpa using hf 2 f2 rfl⟩

theorem open_four {t : TypeId} {fuel : Nat} {cs : List Value} {x : DataW H × List MemPlace} {f0 f1 f2 f3 : Field} (hs : Tryz.prog.underlying t = some (.struct #[f0, f1, f2, f3])) (h : DataW.trod enc Tryz.prog w base spare held fuel t cs = some x) :
    ∃ y0 y1 y2 y3 n, fuel = n + 1 ∧ x = (.agg [y0.1, y1.1, y2.1, y3.1], y0.2 ++ (y1.2 ++ (y2.2 ++ y3.2))) ∧ cs.length = Tryz.prog.cellsOf t ∧
      DataW.trod enc Tryz.prog w base spare held n f0.type ((cs.drop f0.offset).take (Tryz.prog.cellsOf f0.type)) = some y0 ∧
      DataW.trod enc Tryz.prog w base spare held n f1.type ((cs.drop f1.offset).take (Tryz.prog.cellsOf f1.type)) = some y1 ∧
      DataW.trod enc Tryz.prog w base spare held n f2.type ((cs.drop f2.offset).take (Tryz.prog.cellsOf f2.type)) = some y2 ∧
      DataW.trod enc Tryz.prog w base spare held n f3.type ((cs.drop f3.offset).take (Tryz.prog.cellsOf f3.type)) = some y3 := by
  obtain ⟨xs, n, hn, rfl, hl, hlen, hf⟩ := DataW.trod_struct hs h
  match xs, hlen with
  | [y0, y1, y2, y3], _ => exact ⟨y0, y1, y2, y3, n, hn, by simp, hl, by simpa using hf 0 f0 rfl, by simpa using hf 1 f1 rfl, by simpa using hf 2 f2 rfl, by simpa using hf 3 f3 rfl⟩

set_option maxRecDepth 100000 in
theorem open_problem {v : Value} {d : DataW H} {ps : List MemPlace} {r : Reach} {b0 : Nat} (hv : Value.okWide Tryz.prog w r b0 35 v) (h : DataW.Trod enc Tryz.prog w base spare held 35 v d ps) :
    ∃ (err off line col : Int) (g a x wh : ByteArray), v = .agg ⟨[.int .i64 err, .string g, .string a, .string x, .int .i64 off, .int .i64 line, .int .i64 col, .string wh]⟩ ∧
      d = .agg [.lit (.int .i64 err), .agg [.lit (.string g.data.toList), .lit (.string a.data.toList), .lit (.string x.data.toList)], .agg [.lit (.int .i64 off), .lit (.int .i64 line), .lit (.int .i64 col)], .lit (.string wh.data.toList)] ∧ ps = [] ∧
      (Lit.int .i64 err).wf = true ∧ (Lit.int .i64 off).wf = true ∧ (Lit.int .i64 line).wf = true ∧ (Lit.int .i64 col).wf = true ∧ g.size ≤ maxLen ∧ a.size ≤ maxLen ∧ x.size ≤ maxLen ∧ wh.size ≤ maxLen := by
  obtain ⟨cs, rfl, hsz⟩ := okWide_struct Tryz.underlying35 hv
  obtain ⟨fuel, hf⟩ := h
  have hf' : DataW.trod enc Tryz.prog w base spare held fuel 35 cs.toList = some (d, ps) := hf
  obtain ⟨y0, y1, y2, y3, n, rfl, hx, hl, h0, h1, h2, h3⟩ := open_four Tryz.underlying35 hf'
  rw [c35] at hl
  obtain ⟨l⟩ := cs
  simp only at hl h0 h1 h2 h3
  match l, hl with
  | [a0, a1, a2, a3, a4, a5, a6, a7], _ =>
    simp only [c29, c31, c33, c9, List.drop_zero, List.drop_succ_cons, List.take_succ_cons, List.take_zero] at h0 h1 h2 h3
    obtain ⟨err, e0, rfl, w0⟩ := DataW.trod_int Tryz.underlying29 h0
    obtain ⟨z0, z1, z2, m, rfl, rfl, _, k0, k1, k2⟩ := open_three Tryz.underlying31 h1
    obtain ⟨u0, u1, u2, m', hm', rfl, _, q0, q1, q2⟩ := open_three Tryz.underlying33 h2
    obtain ⟨wh, e7, rfl, w7⟩ := DataW.trod_string Tryz.underlying9 h3
    simp only [c9, c3, List.drop_zero, List.drop_succ_cons, List.take_succ_cons, List.take_zero] at k0 k1 k2 q0 q1 q2
    obtain ⟨g, e1, rfl, w1⟩ := DataW.trod_string Tryz.underlying9 k0
    obtain ⟨a, e2, rfl, w2⟩ := DataW.trod_string Tryz.underlying9 k1
    obtain ⟨x, e3, rfl, w3⟩ := DataW.trod_string Tryz.underlying9 k2
    obtain ⟨off, e4, rfl, w4⟩ := DataW.trod_int Tryz.underlying3 q0
    obtain ⟨line, e5, rfl, w5⟩ := DataW.trod_int Tryz.underlying3 q1
    obtain ⟨col, e6, rfl, w6⟩ := DataW.trod_int Tryz.underlying3 q2
    simp only [List.cons.injEq, and_true] at e0 e1 e2 e3 e4 e5 e6 e7
    subst e0; subst e1; subst e2; subst e3; subst e4; subst e5; subst e6; subst e7
    simp only [Prod.mk.injEq, List.append_nil] at hx
    exact ⟨err, off, line, col, g, a, x, wh, rfl, hx.1, hx.2, w0, w4, w5, w6, w1, w2, w3, w7⟩

theorem trod_string_mk {t : TypeId} {s : ByteArray} (m : Nat) (ht : Tryz.prog.underlying t = some .string) (hw : s.size ≤ maxLen) : DataW.trod enc Tryz.prog w base spare held (m + 1) t [.string s] = some (.lit (.string s.data.toList), []) := by
  simp [DataW.trod, ht, hw]

theorem shut_problem {err off line col : Int} {g a x wh : ByteArray} (w0 : (Lit.int .i64 err).wf = true) (w4 : (Lit.int .i64 off).wf = true) (w5 : (Lit.int .i64 line).wf = true) (w6 : (Lit.int .i64 col).wf = true) (w1 : g.size ≤ maxLen) (w2 : a.size ≤ maxLen) (w3 : x.size ≤ maxLen) (w7 : wh.size ≤ maxLen) :
    DataW.Trod enc Tryz.prog w base spare held 35 (.agg ⟨[.int .i64 err, .string g, .string a, .string x, .int .i64 off, .int .i64 line, .int .i64 col, .string wh]⟩)
      (.agg [.lit (.int .i64 err), .agg [.lit (.string g.data.toList), .lit (.string a.data.toList), .lit (.string x.data.toList)], .agg [.lit (.int .i64 off), .lit (.int .i64 line), .lit (.int .i64 col)], .lit (.string wh.data.toList)]) [] := by
  have hg : DataW.trod enc Tryz.prog w base spare held 2 31 [.string g, .string a, .string x] = some (.agg [.lit (.string g.data.toList), .lit (.string a.data.toList), .lit (.string x.data.toList)], []) := by
    have := trod_struct_mk (enc := enc) (w := w) (base := base) (spare := spare) (held := held) (n := 1) (cs := [.string g, .string a, .string x]) (xs := [(.lit (.string g.data.toList), []), (.lit (.string a.data.toList), []), (.lit (.string x.data.toList), [])]) Tryz.underlying31 (by rw [c31]; rfl) (by
      simp only [List.mapM_cons, List.mapM_nil, c9, List.drop_zero, List.drop_succ_cons, List.take_succ_cons, List.take_zero, trod_string_mk 0 Tryz.underlying9 w1, trod_string_mk 0 Tryz.underlying9 w2, trod_string_mk 0 Tryz.underlying9 w3]
      rfl)
    simpa using this
  have hp : DataW.trod enc Tryz.prog w base spare held 2 33 [.int .i64 off, .int .i64 line, .int .i64 col] = some (.agg [.lit (.int .i64 off), .lit (.int .i64 line), .lit (.int .i64 col)], []) := by
    have := trod_struct_mk (enc := enc) (w := w) (base := base) (spare := spare) (held := held) (n := 1) (cs := [.int .i64 off, .int .i64 line, .int .i64 col]) (xs := [(.lit (.int .i64 off), []), (.lit (.int .i64 line), []), (.lit (.int .i64 col), [])]) Tryz.underlying33 (by rw [c33]; rfl) (by
      simp only [List.mapM_cons, List.mapM_nil, c3, List.drop_zero, List.drop_succ_cons, List.take_succ_cons, List.take_zero, trod_int_mk 0 Tryz.underlying3 w4, trod_int_mk 0 Tryz.underlying3 w5, trod_int_mk 0 Tryz.underlying3 w6]
      rfl)
    simpa using this
  refine ⟨3, ?_⟩
  have := trod_struct_mk (enc := enc) (w := w) (base := base) (spare := spare) (held := held) (n := 2) (cs := [.int .i64 err, .string g, .string a, .string x, .int .i64 off, .int .i64 line, .int .i64 col, .string wh])
    (xs := [(.lit (.int .i64 err), []), (.agg [.lit (.string g.data.toList), .lit (.string a.data.toList), .lit (.string x.data.toList)], []), (.agg [.lit (.int .i64 off), .lit (.int .i64 line), .lit (.int .i64 col)], []), (.lit (.string wh.data.toList), [])]) Tryz.underlying35 (by rw [c35]; rfl) (by
      simp only [List.mapM_cons, List.mapM_nil, c29, c31, c33, c9, List.drop_zero, List.drop_succ_cons, List.take_succ_cons, List.take_zero, trod_int_mk 1 Tryz.underlying29 w0, hg, hp, trod_string_mk 1 Tryz.underlying9 w7]
      rfl)
  exact this
end
end Go.Proofs.YtenlpijbhhfahaaGreatDoor
