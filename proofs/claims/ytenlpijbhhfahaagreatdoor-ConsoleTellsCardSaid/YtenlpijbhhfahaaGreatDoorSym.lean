/- Texts that are not known, as rows of letters: a letter below 256 is that byte, one from 256 on a text that is not known. What is put together of them has a name of its own, so that two texts of the same letters have the same name. -/
import Derived.Test.YtenlpijbhhfahaaGreatDoorSimZ
set_option linter.all false
namespace Go.Sim

/-- The letters of a name. -/
def lets : Nat → Nat → List Nat
  | 0, _ => []
  | n + 1, c => c % 512 :: lets n (c / 512)

def letVal (sv : Nat → List UInt8) (k : Nat) : List UInt8 := if k < 256 then [UInt8.ofNat k] else sv (k - 256)

def nameVal (sv : Nat → List UInt8) (p : Nat × Nat) : List UInt8 := (lets p.1 p.2).flatMap (letVal sv)

def nameAt (i : Nat) : Nat × Nat := (i / 2 % 1024, i / 2 / 1024)

/-- What the names stand for: the odd ones for texts, the even ones for ints. -/
@[reducible] def mkSig (sv : Nat → List UInt8) (iv : Nat → Option (IntKind × Int)) : Sig where
  val := fun i => if i % 2 = 1 then some (.str ⟨⟨nameVal sv (nameAt i)⟩⟩) else (iv (i / 2)).map fun p => .int p.1 p.2
  noBool := fun i b h => by
    by_cases e : i % 2 = 1
    · simp [e] at h
    · simp [e] at h

theorem lets_append : ∀ (n c m d : Nat), lets n c ++ lets m d = lets (n + m) (c % 512 ^ n + d * 512 ^ n)
  | 0, c, m, d => by simp [lets, Nat.mod_one]
  | n + 1, c, m, d => by
    rw [Nat.succ_add]
    simp only [lets, List.cons_append]
    have e : c % 512 ^ (n + 1) = c % 512 + 512 * (c / 512 % 512 ^ n) := by
      rw [Nat.pow_succ, Nat.mul_comm, Nat.mod_mul]
    have e2 : d * 512 ^ (n + 1) = 512 * (d * 512 ^ n) := by rw [Nat.pow_succ]; ac_rfl
    rw [e, e2]
    have hlt : c % 512 < 512 := Nat.mod_lt _ (by omega)
    congr 1
    · omega
    · rw [lets_append n (c / 512) m d]
      congr 1
      omega

-- what the kernel works out

noncomputable section

def spread (n : Nat) : Nat → Nat := Nat.rec (motive := fun _ => Nat → Nat) (fun _ => 0) (fun _ ih c => Nat.add (Nat.mod c 256) (Nat.mul 512 (ih (Nat.div c 256)))) n

theorem nameVal_spread (sv : Nat → List UInt8) : ∀ (n c : Nat), nameVal sv (n, spread n c) = bytesN n c
  | 0, c => rfl
  | n + 1, c => by
    have e : spread (n + 1) c = c % 256 + 512 * spread n (c / 256) := rfl
    have hlt : c % 256 < 256 := Nat.mod_lt _ (by omega)
    have e1 : (c % 256 + 512 * spread n (c / 256)) % 512 = c % 256 := by omega
    have e2 : (c % 256 + 512 * spread n (c / 256)) / 512 = spread n (c / 256) := by omega
    unfold nameVal
    rw [e]
    simp only [lets, e1, e2, List.flatMap_cons, bytesN]
    have := nameVal_spread sv n (c / 256)
    unfold nameVal at this
    simp only at this
    rw [this]
    simp [letVal, hlt]

/-- The name of a text. -/
def nameOf (v : AV) : Option (Nat × Nat) :=
  AV.rec (motive_1 := fun _ => Option (Nat × Nat)) (motive_2 := fun _ => Unit) (fun _ => none) (fun _ _ => none) (fun n c => some (n, spread n c)) none (fun _ _ => none) none (fun _ _ _ _ => none) (fun _ _ _ _ => none) (fun _ _ _ _ => none) none (fun _ => none) none (fun _ _ _ _ _ => none) none (fun _ _ _ => none) (fun _ _ => none) (fun _ _ => none) none
    (fun i => Bool.rec (motive := fun _ => Option (Nat × Nat)) none (some (Nat.mod (Nat.div i 2) 1024, Nat.div (Nat.div i 2) 1024)) (Nat.beq (Nat.mod i 2) 1)) () (fun _ _ _ _ => ()) v

def mkName (p : Nat × Nat) : Option AV :=
  Prod.rec (motive := fun _ => Option AV) (fun n c => Bool.rec (motive := fun _ => Option AV) none (some (.opq (Nat.succ (Nat.mul 2 (Nat.add n (Nat.mul 1024 c)))))) (Nat.ble (Nat.succ n) 1024)) p

def catName (p q : Nat × Nat) : Nat × Nat :=
  Prod.rec (motive := fun _ => Nat × Nat) (fun n c => Prod.rec (motive := fun _ => Nat × Nat) (fun m d => (Nat.add n m, Nat.add (Nat.mod c (Nat.pow 512 n)) (Nat.mul d (Nat.pow 512 n)))) q) p

def catAV (x y : AV) : Option AV :=
  Option.rec (motive := fun _ => Option AV) none (fun p => Option.rec (motive := fun _ => Option AV) none (fun q => mkName (catName p q)) (nameOf y)) (nameOf x)

/-- Parts with a text between each two. -/
def joinName (sep : Nat × Nat) (l : List AV) : Option (Nat × Nat) :=
  List.rec (motive := fun _ => Option (Nat × Nat)) (some (0, 0)) (fun x r ih => Option.rec (motive := fun _ => Option (Nat × Nat)) none
    (fun p => List.rec (motive := fun _ => Option (Nat × Nat)) (some p) (fun _ _ _ => Option.rec (motive := fun _ => Option (Nat × Nat)) none (fun q => some (catName p (catName sep q))) ih) r) (nameOf x)) l

def joinAV (sep : Nat × Nat) (l : List AV) : Option AV := Option.rec (motive := fun _ => Option AV) none mkName (joinName sep l)

end

variable {sv : Nat → List UInt8} {iv : Nat → Option (IntKind × Int)}

theorem nameVal_cat (p q : Nat × Nat) : nameVal sv (catName p q) = nameVal sv p ++ nameVal sv q := by
  obtain ⟨n, c⟩ := p
  obtain ⟨m, d⟩ := q
  have e : catName (n, c) (m, d) = (n + m, c % 512 ^ n + d * 512 ^ n) := rfl
  rw [e]
  unfold nameVal
  rw [← List.flatMap_append, lets_append]

theorem nameOf_ok {v : AV} {p : Nat × Nat} (h : nameOf v = some p) : @atom (mkSig sv iv) v = some (.str ⟨⟨nameVal sv p⟩⟩) := by
  letI := mkSig sv iv
  cases v with
  | str n c =>
    have e : nameOf (.str n c) = some (n, spread n c) := rfl
    rw [e] at h
    simp only [Option.some.injEq] at h
    subst h
    rw [nameVal_spread]
    rfl
  | opq i =>
    have e : nameOf (.opq i) = Bool.rec (motive := fun _ => Option (Nat × Nat)) none (some (nameAt i)) (Nat.beq (i % 2) 1) := rfl
    rw [e] at h
    cases hb : Nat.beq (i % 2) 1 with
    | false => rw [hb] at h; simp at h
    | true =>
      rw [hb] at h
      simp only [Option.some.injEq] at h
      subst h
      have := nbeq.1 hb
      show (if i % 2 = 1 then some (Atom.str ⟨⟨nameVal sv (nameAt i)⟩⟩) else _) = _
      rw [if_pos this]
  | _ => simp [nameOf] at h

theorem mkName_ok {p : Nat × Nat} {v : AV} (h : mkName p = some v) : @atom (mkSig sv iv) v = some (.str ⟨⟨nameVal sv p⟩⟩) ∧ p.1 < 1024 := by
  letI := mkSig sv iv
  obtain ⟨n, c⟩ := p
  have e : mkName (n, c) = Bool.rec (motive := fun _ => Option AV) none (some (.opq (2 * (n + 1024 * c) + 1))) (Nat.ble (n + 1) 1024) := rfl
  rw [e] at h
  cases hb : Nat.ble (n + 1) 1024 with
  | false => rw [hb] at h; simp at h
  | true =>
    rw [hb] at h
    simp only [Option.some.injEq] at h
    subst h
    have hlt := nble.1 hb
    refine ⟨?_, hlt⟩
    show (if (2 * (n + 1024 * c) + 1) % 2 = 1 then some (Atom.str ⟨⟨nameVal sv (nameAt (2 * (n + 1024 * c) + 1))⟩⟩) else _) = _
    rw [if_pos (by omega)]
    have : nameAt (2 * (n + 1024 * c) + 1) = (n, c) := by
      unfold nameAt
      have e1 : (2 * (n + 1024 * c) + 1) / 2 = n + 1024 * c := by omega
      rw [e1]
      congr 1 <;> omega
    rw [this]

theorem joinName_ok {sep : Nat × Nat} : ∀ {l : List AV} {p : Nat × Nat}, joinName sep l = some p →
    ∃ xs : List (List UInt8), l.map (@atom (mkSig sv iv)) = xs.map (fun x => some (Atom.str ⟨⟨x⟩⟩)) ∧ nameVal sv p = (xs.intersperse (nameVal sv sep)).flatten
  | [], p, h => by
    have e : joinName sep [] = some (0, 0) := rfl
    rw [e] at h
    simp only [Option.some.injEq] at h
    subst h
    exact ⟨[], rfl, rfl⟩
  | [x], p, h => by
    have e : joinName sep [x] = Option.rec (motive := fun _ => Option (Nat × Nat)) none (fun p => some p) (nameOf x) := rfl
    rw [e] at h
    cases hx : nameOf x with
    | none => rw [hx] at h; simp at h
    | some q =>
      rw [hx] at h
      simp only [Option.some.injEq] at h
      subst h
      exact ⟨[nameVal sv q], by simp [nameOf_ok (sv := sv) (iv := iv) hx], by simp⟩
  | x :: y :: r, p, h => by
    have e : joinName sep (x :: y :: r) = Option.rec (motive := fun _ => Option (Nat × Nat)) none (fun p => Option.rec (motive := fun _ => Option (Nat × Nat)) none (fun q => some (catName p (catName sep q))) (joinName sep (y :: r))) (nameOf x) := rfl
    rw [e] at h
    cases hx : nameOf x with
    | none => rw [hx] at h; simp at h
    | some q =>
      rw [hx] at h
      cases hr : joinName sep (y :: r) with
      | none => rw [hr] at h; simp at h
      | some t =>
        rw [hr] at h
        simp only [Option.some.injEq] at h
        subst h
        obtain ⟨xs, h1, h2⟩ := joinName_ok hr
        refine ⟨nameVal sv q :: xs, by rw [List.map_cons (l := y :: r), h1, List.map_cons, nameOf_ok (sv := sv) (iv := iv) hx], ?_⟩
        cases xs with
        | nil => simp at h1
        | cons z zs => rw [nameVal_cat, nameVal_cat, h2]; simp [List.intersperse]

/-- Texts of a bounded length. -/
theorem nameVal_len {M : Nat} (hM : 1 ≤ M) (hs : ∀ i, (sv i).length ≤ M) (p : Nat × Nat) : (nameVal sv p).length ≤ p.1 * M := by
  have : ∀ l : List Nat, (l.flatMap (letVal sv)).length ≤ l.length * M := fun l => by
    induction l with
    | nil => simp
    | cons k l ih =>
      rw [List.flatMap_cons, List.length_append, List.length_cons, Nat.succ_mul]
      have : (letVal sv k).length ≤ M := by
        unfold letVal
        split
        · simpa using hM
        · exact hs _
      omega
  have hl : ∀ (n c : Nat), (lets n c).length = n := fun n => by
    induction n with
    | zero => intro c; rfl
    | succ n ih => intro c; simp [lets, ih]
  have := this (lets p.1 p.2)
  rw [hl] at this
  exact this

theorem str_add {s t : List UInt8} (h : s.length + t.length ≤ 2 ^ 62) : Atom.bin .add (.str ⟨⟨s⟩⟩) (.str ⟨⟨t⟩⟩) (.str ⟨⟨s ++ t⟩⟩) := by
  intro P ty w
  have h1 : ¬ ((((⟨⟨s⟩⟩ : ByteArray).size + (⟨⟨t⟩⟩ : ByteArray).size : Nat) : Int) > IntKind.i64.max) := by
    have e1 : (⟨⟨s⟩⟩ : ByteArray).size = s.length := rfl
    have e2 : (⟨⟨t⟩⟩ : ByteArray).size = t.length := rfl
    have e3 : IntKind.i64.max = 9223372036854775807 := by decide
    have e4 : (2 : Nat) ^ 62 = 4611686018427387904 := by decide
    rw [e1, e2, e3]
    omega
  simp only [binOp, Op.stringOp, if_neg h1, Sem.run_pure, Atom.val]
  rfl

theorem cat_ok {x y v : AV} (h : catAV x y = some v) {M : Nat} (hM : 1 ≤ M) (hM' : M ≤ 2 ^ 50) (hs : ∀ i, (sv i).length ≤ M) :
    ∃ X Y Z, @atom (mkSig sv iv) x = some X ∧ @atom (mkSig sv iv) y = some Y ∧ @atom (mkSig sv iv) v = some Z ∧ X.bin .add Y Z := by
  unfold catAV at h
  cases hx : nameOf x with
  | none => rw [hx] at h; simp at h
  | some p =>
    rw [hx] at h
    cases hy : nameOf y with
    | none => rw [hy] at h; simp at h
    | some q =>
      rw [hy] at h
      simp only at h
      obtain ⟨h1, h2⟩ := mkName_ok (sv := sv) (iv := iv) h
      refine ⟨_, _, _, nameOf_ok hx, nameOf_ok hy, h1, ?_⟩
      rw [nameVal_cat]
      apply str_add
      have e1 := nameVal_len hM hs (catName p q)
      rw [nameVal_cat, List.length_append] at e1
      have e2 : (catName p q).1 * M ≤ 1024 * 2 ^ 50 := Nat.mul_le_mul (by omega) hM'
      have e3 : 1024 * 2 ^ 50 ≤ 2 ^ 62 := by decide
      omega
end Go.Sim
