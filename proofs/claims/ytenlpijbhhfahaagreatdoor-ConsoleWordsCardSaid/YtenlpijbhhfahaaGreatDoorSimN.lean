/- The evaluator, its soundness, twelfth part: in what orders a region may run. -/
import Derived.Test.YtenlpijbhhfahaaGreatDoorSimM
import Derived.Orders
set_option linter.all false
set_option maxHeartbeats 2000000
namespace Go.Sim
variable [Sig]

theorem edgeBits_mem {bef : List Nat} {j : Nat} : ∀ {es : List Edge}, (edgeBits bef es).testBit j = true → ∃ e ∈ es, Region.binds .any e = true ∧ (e.on = j ∨ (nth bef e.on).testBit j = true)
  | [], h => by simp [edgeBits] at h
  | e :: es, h => by
    simp only [edgeBits] at h
    cases hb : Region.binds .any e with
    | true =>
      rw [hb] at h
      simp only [Nat.testBit_or, Bool.or_eq_true, Nat.testBit_two_pow, decide_eq_true_eq] at h
      rcases h with (h | h) | h
      · obtain ⟨e', he, h1⟩ := edgeBits_mem h
        exact ⟨e', by simp [he], h1⟩
      · exact ⟨e, by simp, hb, .inl h⟩
      · exact ⟨e, by simp, hb, .inr h⟩
    | false =>
      rw [hb] at h
      obtain ⟨e', he, h1⟩ := edgeBits_mem h
      exact ⟨e', by simp [he], h1⟩

/-- What befOk says of an operation. -/
theorem befOk_at {bef : List Nat} : ∀ {os : List Oper} {i j : Nat} {o : Oper}, befOk bef os i = true → os[j]? = some o →
    nth bef (i + j) = edgeBits bef o.after.toList ∧ ∀ e ∈ o.after.toList, Region.binds .any e = true → e.on < i + j
  | [], i, j, o, _, h => by simp at h
  | p :: os, i, j, o, hb, h => by
    simp only [befOk, Bool.and_eq_true, nbeq, List.all_eq_true, Bool.or_eq_true, Bool.not_eq_true', nblt] at hb
    obtain ⟨⟨h1, h2⟩, h3⟩ := hb
    cases j with
    | zero =>
      simp only [List.getElem?_cons_zero, Option.some.injEq] at h
      subst h
      refine ⟨h1, fun e he hbi => ?_⟩
      rcases h2 e he with h | h
      · rw [hbi] at h; simp at h
      · exact h
    | succ j =>
      simp only [List.getElem?_cons_succ] at h
      have := befOk_at h3 h
      rw [show i + (j + 1) = i + 1 + j from by omega]
      exact this

/-- An order of all that stands behind what is done. -/
def Topo (n : Nat) (bef : List Nat) : Nat → List Nat → Prop
  | d, [] => ∀ i, i < n → d.testBit i = true
  | d, i :: l => i < n ∧ d.testBit i = false ∧ (∀ j, (nth bef i).testBit j = true → d.testBit j = true) ∧ Topo n bef (d ||| 2 ^ i) l

theorem topoB_ok {n : Nat} {bef : List Nat} : ∀ {l : List Nat} {d : Nat}, topoB n bef d l = true → Topo n bef d l
  | [], d, h => by
    simp only [topoB, nbeq] at h
    subst h
    intro i hi
    simp [hi]
  | i :: l, d, h => by
    simp only [topoB, Bool.and_eq_true, nblt, Bool.not_eq_true', nbeq] at h
    obtain ⟨⟨⟨h1, h2⟩, h3⟩, h4⟩ := h
    refine ⟨h1, h2, fun j hj => ?_, topoB_ok h4⟩
    have := congrArg (fun x => x.testBit j) h3
    simp only [Nat.testBit_and, hj, Bool.true_and] at this
    exact this

theorem testBit_add {d i j : Nat} : (d ||| 2 ^ i).testBit j = true ↔ d.testBit j = true ∨ i = j := by
  simp [Nat.testBit_or, Nat.testBit_two_pow]

/-- What is done is closed: with an operation all that is ahead of it. -/
def Closed (bef : List Nat) (d : Nat) : Prop := ∀ i, d.testBit i = true → ∀ j, (nth bef i).testBit j = true → d.testBit j = true

theorem Closed.add {bef : List Nat} {d i : Nat} (h : Closed bef d) (hi : ∀ j, (nth bef i).testBit j = true → d.testBit j = true) : Closed bef (d ||| 2 ^ i) := by
  intro k hk j hj
  rw [testBit_add] at hk ⊢
  rcases hk with hk | rfl
  · exact .inl (h k hk j hj)
  · exact .inl (hi j hj)

/-- How many are not done. -/
def left (n d : Nat) : Nat := ((List.range n).filter fun i => !d.testBit i).length

theorem left_zero {n d : Nat} (h : left n d = 0) : ∀ i, i < n → d.testBit i = true := by
  intro i hi
  have := List.length_eq_zero_iff.1 h
  rw [List.filter_eq_nil_iff] at this
  simpa using this i (by simpa using hi)

theorem filter_lt {α : Type} (p q : α → Bool) : ∀ (l : List α), (∀ x, x ∈ l → q x = true → p x = true) → (l.filter q).length ≤ (l.filter p).length
  | [], _ => Nat.le_refl _
  | x :: l, h => by
    have ih := filter_lt p q l fun y hy => h y (by simp [hy])
    by_cases hq : q x = true
    · have hp := h x (by simp) hq
      simp [hq, hp]; exact ih
    · by_cases hp : p x = true
      · simp [hq, hp]; omega
      · simp [hq, hp]; exact ih

theorem filter_lt' {α : Type} (p q : α → Bool) {x : α} : ∀ (l : List α), (∀ y, y ∈ l → q y = true → p y = true) → x ∈ l → p x = true → q x = false → (l.filter q).length < (l.filter p).length
  | [], _, hx, _, _ => by simp at hx
  | y :: l, h, hx, hp, hq => by
    rcases List.mem_cons.1 hx with rfl | hx
    · have := filter_lt p q l fun z hz => h z (by simp [hz])
      simp [hp, hq]; omega
    · have ih := filter_lt' p q l (fun z hz => h z (by simp [hz])) hx hp hq
      by_cases hqy : q y = true
      · have hpy := h y (by simp) hqy
        simp [hqy, hpy]; exact ih
      · by_cases hpy : p y = true
        · simp [hqy, hpy]; omega
        · simp [hqy, hpy]; exact ih

theorem left_add {n d i : Nat} (hi : i < n) (hd : d.testBit i = false) : left n (d ||| 2 ^ i) < left n d := by
  refine filter_lt' _ _ _ (fun j _ hj => ?_) (x := i) (by simpa using hi) (by simp [hd]) ?_
  · simp only [Bool.not_eq_true'] at hj ⊢
    cases e : d.testBit j with
    | false => rfl
    | true => rw [Nat.testBit_or, e] at hj; simp at hj
  · have : (d ||| 2 ^ i).testBit i = true := testBit_add.2 (.inr rfl)
    simp [this]

theorem linearise_topo {ops : Array Oper} {bef : List Nat} (hb : befOk bef ops.toList 0 = true) : ∀ (fuel t : Nat) (listed : Array Bool) (d : Nat), listed.size = ops.size → (∀ i, i < ops.size → (listed.getD i false = true ↔ d.testBit i = true)) → Closed bef d →
    left ops.size d ≤ fuel → Topo ops.size bef d (Region.linearise.go .any ops fuel t listed [])
  | 0, t, listed, d, _, _, _, hl => by
    simp only [Region.linearise.go, List.reverse_nil]
    exact left_zero (by omega)
  | fuel + 1, t, listed, d, hs, hlist, hc, hl => by
    simp only [Region.linearise.go]
    change Topo ops.size bef d (match (Region.ready .any ops listed)[t % (Region.ready .any ops listed).length]? with
      | some i => Region.linearise.go .any ops fuel (t / (Region.ready .any ops listed).length) (listed.setIfInBounds i true) [i]
      | none => [].reverse)
    cases hi : (Region.ready .any ops listed)[t % (Region.ready .any ops listed).length]? with
    | none =>
      have hnil : Region.ready .any ops listed = [] := by
        cases hr : Region.ready .any ops listed with
        | nil => rfl
        | cons x xs =>
          rw [hr] at hi
          have hlt : t % (x :: xs).length < (x :: xs).length := Nat.mod_lt _ (by simp)
          simp at hi
          simp at hlt
          omega
      simp only [List.reverse_nil]
      intro i
      induction i using Nat.strongRecOn with
      | _ i ih =>
        intro hin
        cases hd : d.testBit i with
        | true => rfl
        | false =>
          exfalso
          have ho : ops[i]? = some ops[i] := by simp [hin]
          have hm : i ∈ Region.ready .any ops listed := by
            rw [mem_ready]
            refine ⟨?_, ops[i], ho, fun e he hbi => ?_⟩
            · have this : ¬ listed.getD i false = true := fun e => by
                have := (hlist i hin).1 e
                rw [hd] at this
                simp at this
              have hsz : i < listed.size := by omega
              simp only [Array.getD_eq_getD_getElem?, hsz, Array.getElem?_eq_getElem, Option.getD_some] at this ⊢
              simpa using this
            · have hlt := (befOk_at (j := i) hb (show ops.toList[i]? = some ops[i] by rw [Array.getElem?_toList]; exact ho)).2 e (by simpa using he) hbi
              rw [Nat.zero_add] at hlt
              exact (hlist _ (by omega)).2 (ih e.on hlt (by omega))
          rw [hnil] at hm
          simp at hm
    | some i =>
      simp only []
      rw [linearise_go_acc, List.reverse_singleton, List.singleton_append]
      have hmem := List.mem_of_getElem? hi
      rw [mem_ready] at hmem
      obtain ⟨h0, o, ho, hedges⟩ := hmem
      have hin : i < ops.size := (Array.getElem?_eq_some_iff.1 ho).1
      have hsz : i < listed.size := by omega
      have hdi : d.testBit i = false := by
        cases hd : d.testBit i with
        | false => rfl
        | true =>
          have := (hlist i hin).2 hd
          simp only [Array.getD_eq_getD_getElem?, hsz, Array.getElem?_eq_getElem, Option.getD_some] at this h0
          rw [this] at h0
          simp at h0
      have hbits : ∀ j, (nth bef i).testBit j = true → d.testBit j = true := fun j hj => by
        have hbo := befOk_at (j := i) hb (by simpa using ho)
        rw [Nat.zero_add] at hbo
        rw [hbo.1] at hj
        obtain ⟨e, he, hbi, h⟩ := edgeBits_mem hj
        have hlt := hbo.2 e he hbi
        have hdon := (hlist e.on (by omega)).1 (hedges e (by simpa using he) hbi)
        rcases h with rfl | h
        · exact hdon
        · exact hc _ hdon _ h
      refine ⟨hin, hdi, hbits, linearise_topo hb fuel _ _ _ (by simpa using hs) (fun j hj => ?_) (hc.add hbits) ?_⟩
      · rw [testBit_add]
        by_cases e : i = j
        · subst e
          simp [Array.getD_eq_getD_getElem?, hsz]
        · rw [getD_set_ne false e]
          have := hlist j hj
          simp only [e, or_false]
          exact this
      · have := left_add hin hdi
        omega

/-- y stands behind x. -/
def Keeps (x y : Nat) : Nat → List Nat → Prop
  | _, [] => True
  | d, i :: l => (i = y → d.testBit x = true) ∧ Keeps x y (d ||| 2 ^ i) l

theorem keepsB_ok {x y : Nat} : ∀ {l : List Nat} {d : Nat}, keepsB x y d l = true → Keeps x y d l
  | [], _, _ => trivial
  | i :: l, d, h => by
    simp only [keepsB, Bool.and_eq_true, Bool.or_eq_true, Bool.not_eq_true', nbeq_f] at h
    exact ⟨fun e => h.1.resolve_left (fun hne => hne e), keepsB_ok h.2⟩

theorem keeps_done {x y : Nat} : ∀ {l : List Nat} {d : Nat}, d.testBit x = true → Keeps x y d l
  | [], _, _ => trivial
  | _ :: _, _, h => ⟨fun _ => h, keeps_done (testBit_add.2 (.inl h))⟩

theorem keeps_or {x y : Nat} (hxy : x ≠ y) : ∀ {l : List Nat} {d : Nat}, d.testBit x = false → d.testBit y = false → Keeps x y d l ∨ Keeps y x d l
  | [], _, _, _ => .inl trivial
  | i :: l, d, hx, hy => by
    by_cases e1 : i = x
    · subst e1
      exact .inl ⟨fun e => absurd e hxy, keeps_done (testBit_add.2 (.inr rfl))⟩
    · by_cases e2 : i = y
      · subst e2
        exact .inr ⟨fun e => absurd e e1, keeps_done (testBit_add.2 (.inr rfl))⟩
      · have hx' : (d ||| 2 ^ i).testBit x = false := by
          cases e : (d ||| 2 ^ i).testBit x with
          | false => rfl
          | true => rcases testBit_add.1 e with h | h
                    · rw [hx] at h; simp at h
                    · exact absurd h e1
        have hy' : (d ||| 2 ^ i).testBit y = false := by
          cases e : (d ||| 2 ^ i).testBit y with
          | false => rfl
          | true => rcases testBit_add.1 e with h | h
                    · rw [hy] at h; simp at h
                    · exact absurd h e2
        exact (keeps_or hxy hx' hy').imp (fun h => ⟨fun e => absurd e e2, h⟩) (fun h => ⟨fun e => absurd e e1, h⟩)

/-- The temporary of an operation. -/
def dstOf (ops : List Oper) (i : Nat) : Option Nat := ops[i]?.bind (·.dst)

theorem dstIs_iff {ops : List Oper} {i t : Nat} : dstIs ops i t = true ↔ dstOf ops i = some t := by
  unfold dstIs dstOf
  cases ops[i]? with
  | none => simp
  | some o =>
    cases h : o.dst with
    | none => simp [h]
    | some d => simp [h]

theorem dstOf_lt {ops : List Oper} {i t : Nat} (h : dstOf ops i = some t) : i < ops.length := by
  unfold dstOf at h
  cases e : ops[i]? with
  | none => rw [e] at h; simp at h
  | some o => exact (List.getElem?_eq_some_iff.1 e).1

structure OrdFacts (ops : List Oper) (bef : List Nat) : Prop where
  once : ∀ i j t, dstOf ops i = some t → dstOf ops j = some t → i = j
  src : ∀ j o, ops[j]? = some o → ∀ t ∈ tmpsOf o, ∀ i, dstOf ops i = some t → i = j ∨ (nth bef j).testBit i = true ∨ (nth bef i).testBit j = true
  guard : ∀ j o g w, ops[j]? = some o → o.guard = some (g, w) → (nth bef j).testBit g = true

theorem orderOk_ok {ops : List Oper} {bef : List Nat} (h : orderOk ops bef = true) : OrdFacts ops bef := by
  unfold orderOk at h
  rw [List.all_eq_true] at h
  have h' : ∀ j o, ops[j]? = some o → _ := fun j o ho => by
    have hlt : j < ops.length := (List.getElem?_eq_some_iff.1 ho).1
    have := h j (by simpa using hlt)
    simp only [ho] at this
    exact this
  constructor
  · intro i j t hi hj
    obtain ⟨o, ho⟩ : ∃ o, ops[i]? = some o := ⟨ops[i]'(dstOf_lt hi), by simp [dstOf_lt hi]⟩
    have := h' i o ho
    have hd : o.dst = some t := by simpa [dstOf, ho] using hi
    simp only [hd, Bool.and_eq_true, List.all_eq_true, Bool.or_eq_true, Bool.not_eq_true', nbeq] at this
    rcases this.1.1 j (by simpa using dstOf_lt hj) with e | e
    · exact e.symm
    · rw [dstIs_iff.2 hj] at e; simp at e
  · intro j o ho t ht i hi
    have := h' j o ho
    simp only [Bool.and_eq_true, List.all_eq_true, Bool.or_eq_true, Bool.not_eq_true', nbeq] at this
    rcases this.1.2 t ht i (by simpa using dstOf_lt hi) with ((e | e) | e) | e
    · rw [dstIs_iff.2 hi] at e; simp at e
    · exact .inl e
    · exact .inr (.inl e)
    · exact .inr (.inr e)
  · intro j o g w ho hg
    have := h' j o ho
    simp only [hg, Bool.and_eq_true] at this
    exact this.2

theorem unordTo_none {bef : List Nat} {i j : Nat} : ∀ {l : List Nat}, (i, j) ∉ unordTo bef i l → j ∈ l → (nth bef j).testBit i = true
  | [], _, h => by simp at h
  | k :: ks, hn, hm => by
    simp only [unordTo] at hn
    rcases List.mem_cons.1 hm with rfl | hm
    · cases e : (nth bef j).testBit i with
      | true => rfl
      | false => rw [e] at hn; simp at hn
    · refine unordTo_none (l := ks) (fun h => hn ?_) hm
      split <;> simp [h]

/-- Of two effects one is ahead of the other, but for those of the list. -/
theorem unord_ok {bef : List Nat} {i j : Nat} : ∀ {l : List Nat}, i ∈ l → j ∈ l → i ≠ j → (nth bef j).testBit i = true ∨ (nth bef i).testBit j = true ∨ (i, j) ∈ unord bef l ∨ (j, i) ∈ unord bef l
  | [], h, _, _ => by simp at h
  | k :: ks, hi, hj, hne => by
    simp only [unord, List.mem_append]
    rcases List.mem_cons.1 hi with rfl | hi0
    · rcases List.mem_cons.1 hj with rfl | hj
      · exact absurd rfl hne
      · by_cases h : (i, j) ∈ unordTo bef i ks
        · exact .inr (.inr (.inl (.inl h)))
        · exact .inl (unordTo_none h hj)
    · have hi' := hi0
      rcases List.mem_cons.1 hj with rfl | hj'
      · by_cases h : (j, i) ∈ unordTo bef j ks
        · exact .inr (.inr (.inr (.inl h)))
        · exact .inr (.inl (unordTo_none h hi'))
      · rcases unord_ok hi' hj' hne with h | h | h | h
        · exact .inl h
        · exact .inr (.inl h)
        · exact .inr (.inr (.inl (.inr h)))
        · exact .inr (.inr (.inr (.inr h)))

theorem effsFrom_mem {ext : Exts} : ∀ {os : List Oper} {i j : Nat} {o : Oper}, os[j]? = some o → isEff ext o.op = true → i + j ∈ effsFrom ext os i
  | [], i, j, o, h, _ => by simp at h
  | p :: os, i, j, o, h, he => by
    simp only [effsFrom]
    cases j with
    | zero =>
      simp only [List.getElem?_cons_zero, Option.some.injEq] at h
      subst h
      rw [he]
      simp
    | succ j =>
      simp only [List.getElem?_cons_succ] at h
      have := effsFrom_mem (i := i + 1) h he
      rw [show i + (j + 1) = i + 1 + j from by omega]
      split
      · exact List.mem_cons_of_mem _ this
      · exact this

theorem unordTo_fst {bef : List Nat} {i : Nat} : ∀ {l : List Nat} {p : Nat × Nat}, p ∈ unordTo bef i l → p.1 = i ∧ p.2 ∈ l
  | [], p, h => by simp [unordTo] at h
  | j :: js, p, h => by
    simp only [unordTo] at h
    split at h
    · have := unordTo_fst h
      exact ⟨this.1, by simp [this.2]⟩
    · rcases List.mem_cons.1 h with rfl | h
      · exact ⟨rfl, by simp⟩
      · have := unordTo_fst h
        exact ⟨this.1, by simp [this.2]⟩

/-- The orders of two effects that the evaluator tries. -/
structure PairFacts (ext : Exts) (ops : List Oper) (bef : List Nat) (sp : Option (Nat × Nat)) : Prop where
  pair : ∀ i j o p, ops[i]? = some o → ops[j]? = some p → isEff ext o.op = true → isEff ext p.op = true → i ≠ j → (nth bef j).testBit i = true ∨ (nth bef i).testBit j = true ∨ sp = some (i, j) ∨ sp = some (j, i)
end Go.Sim
