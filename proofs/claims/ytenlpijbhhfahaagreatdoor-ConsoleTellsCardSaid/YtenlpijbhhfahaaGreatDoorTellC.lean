/- The law's function returns true of any problem, and leaves alone what was there. -/
import Derived.Test.YtenlpijbhhfahaaGreatDoorTellB
set_option linter.all false
namespace Go.Proofs.YtenlpijbhhfahaaGreatDoor
open Go Go.Sim Go.RowKit

theorem S_ok (p : Prb) (i : Nat) (hi : i < 256) : @atom (mkSig p.sv p.iv) (S i) = some (.str ⟨⟨p.sv i⟩⟩) := by
  letI := mkSig p.sv p.iv
  show (if (2 * (1 + 1024 * (256 + i)) + 1) % 2 = 1 then some (Atom.str ⟨⟨nameVal p.sv (nameAt (2 * (1 + 1024 * (256 + i)) + 1))⟩⟩) else _) = _
  rw [if_pos (by omega)]
  have e : nameAt (2 * (1 + 1024 * (256 + i)) + 1) = (1, 256 + i) := by
    unfold nameAt
    have e1 : (2 * (1 + 1024 * (256 + i)) + 1) / 2 = 1 + 1024 * (256 + i) := by omega
    rw [e1]
    congr 1 <;> omega
  rw [e]
  have e2 : nameVal p.sv (1, 256 + i) = p.sv i := by
    simp only [nameVal, lets, List.flatMap_cons, List.flatMap_nil, List.append_nil]
    rw [Nat.mod_eq_of_lt (show 256 + i < 512 by omega)]
    unfold letVal
    rw [if_neg (by omega), show 256 + i - 256 = i from by omega]
  rw [e2]

/-- What is known of a problem whose numbers are from 0 on, and whose texts are short. -/
structure Good (p : Prb) : Prop where
  num : ∀ f, f = 25 ∨ f = 27 → ∀ w, (Calls Tryz.prog f #[.int .i64 p.err] w fun e w' => e = .returned (.string ⟨⟨p.te⟩⟩) ∧ Below w.heap.size w w') ∧
    (Calls Tryz.prog f #[.int .i64 p.line] w fun e w' => e = .returned (.string ⟨⟨p.tl⟩⟩) ∧ Below w.heap.size w w') ∧
    (Calls Tryz.prog f #[.int .i64 p.col] w fun e w' => e = .returned (.string ⟨⟨p.tc⟩⟩) ∧ Below w.heap.size w w')
  small : ∀ i, (p.sv i).length ≤ 4000

theorem intersperse_map (s : List UInt8) (xs : List ByteArray) : Lib.join (xs.map (·.data.toList)) s = ((xs.map (·.data.toList)).intersperse s).flatten := rfl

theorem strs_con {p : Prb} {ρ : Env} : ∀ (l : List AV) (xs : List Value) (ys : List (List UInt8)), @conL (mkSig p.sv p.iv) ρ l = some xs → l.map (@atom (mkSig p.sv p.iv)) = ys.map (fun x => some (Atom.str ⟨⟨x⟩⟩)) → xs = ys.map fun t => Value.string ⟨⟨t⟩⟩
  | [], xs, ys, h1, h => by
    letI := mkSig p.sv p.iv
    have := conL_nilI h1
    subst this
    cases ys with
    | nil => rfl
    | cons z zs => simp at h
  | a :: l, xs, ys, h1, h => by
    letI := mkSig p.sv p.iv
    cases ys with
    | nil => simp at h
    | cons z zs =>
      simp only [List.map_cons, List.cons.injEq] at h
      obtain ⟨b, hb, bs, hbs, rfl⟩ := conL_cons.1 h1
      have := atom_con h.1 hb
      rw [strs_con l bs zs hbs h.2, this]
      rfl

theorem inter_len : ∀ ys : List (List UInt8), ys.length ≤ ((ys.intersperse [32]).flatten).length + 1
  | [] => by simp
  | [a] => by simp
  | a :: b :: r => by
    have := inter_len (b :: r)
    rw [List.intersperse_cons₂]
    simp only [List.flatten_cons, List.length_append, List.length_cons, List.length_nil] at this ⊢
    omega

theorem joinK_ok (p : Prb) (hg : Good p) {w₀ : World} {B : Nat} : @CallOk (mkSig p.sv p.iv) Tryz.prog w₀ B (fun f args h => match Nat.beq f 46 with | true => joinK h args | false => none) := by
  letI := mkSig p.sv p.iv
  intro ρ h w f args args' v h' hr hargs hcall
  simp only at hcall
  split at hcall
  · rename_i hf
    have := nbeq.1 hf
    subst this
    unfold joinK at hcall
    split at hcall
    · rename_i id off len cap n c
      simp only [grd_some, Bool.and_eq_true, nbeq, nble, bnd, Option.some.injEq, Prod.mk.injEq] at hcall
      obtain ⟨⟨⟨rfl, rfl⟩, hcap⟩, r, hrow, l, hl, u, hu, rfl, rfl⟩ := hcall
      obtain ⟨x, y, hx, hy, rfl⟩ := conL2 hargs
      obtain ⟨lc, hlc, rfl⟩ := con_sl hx
      have hy' := con_str hy
      subst hy'
      refine ⟨⟨Tryz.f46, Tryz.func46, by kernel_rfl⟩, ?_⟩
      obtain ⟨cs, fr, hra⟩ := hr.row hrow hlc
      obtain ⟨xs, h1, hlen, hcells, _⟩ := readRow_ok (P := Tryz.prog) hra hl
      -- the parts
      unfold joinAV at hu
      cases hj : joinName (1, 32) l with
      | none => rw [hj] at hu; simp at hu
      | some q =>
        rw [hj] at hu
        simp only at hu
        obtain ⟨ys, hys, hval⟩ := joinName_ok (sv := p.sv) (iv := p.iv) hj
        obtain ⟨hv, hq⟩ := mkName_ok (sv := p.sv) (iv := p.iv) hu
        have hxs := strs_con (p := p) l xs ys h1 hys
        subst hxs
        have hyl : ys.length = len := by simpa using hlen
        have hsep : (bytesOf 1 32).data.toList = nameVal p.sv (1, 32) := rfl
        have hlenq : (nameVal p.sv q).length ≤ 1024 * 4000 := Nat.le_trans (nameVal_len (by omega) hg.small q) (Nat.mul_le_mul_right _ (by omega))
        have hmap : (ys.map fun t => (⟨⟨t⟩⟩ : ByteArray)).map (·.data.toList) = ys := by simp [Function.comp_def]
        have hjoin : Lib.join ((ys.map fun t => (⟨⟨t⟩⟩ : ByteArray)).map (·.data.toList)) (bytesOf 1 32).data.toList = nameVal p.sv q := by
          rw [hmap, hsep, hval]; rfl
        have hbk : lc.blk < w.heap.size := by
          have := hra.heap
          obtain ⟨hlt, _⟩ := Array.getElem?_eq_some_iff.1 this
          exact hlt
        have hll : len ≤ 140737488355328 := by
          have := inter_len ys
          have e : nameVal p.sv (1, 32) = [32] := rfl
          rw [e] at hval
          rw [← hval] at this
          omega
        have hc := Tryz.strings_Join lc.blk off cap (ys.map fun t => ⟨⟨t⟩⟩) (bytesOf 1 32) w (fun j x hj => by
            rw [cell_of hra.heap]
            refine hcells j _ ?_
            rw [List.getElem?_map] at hj ⊢
            cases hy : ys[j]? with
            | none => rw [hy] at hj; simp at hj
            | some t =>
              rw [hy] at hj
              simp only [Option.map_some, Option.some.injEq] at hj ⊢
              rw [hj]) hbk (by rw [List.length_map, hyl]; exact hll) (by rw [List.length_map, hyl]; exact hcap) (by rw [hjoin]; omega)
        rw [List.length_map, hyl, hjoin] at hc
        refine hc.mono fun e w' ⟨he, hb⟩ => ?_
        exact ⟨ρ, _, he, below_adv hr hb, atom_some ρ hv⟩
    · simp at hcall
  · simp at hcall

theorem tKnown_ok (p : Prb) (b : Bool) (hg : b = true → Good p) {w₀ : World} {B : Nat} {m : Int} (hB : 0 < B) (hm : w₀.cell? ⟨0, 0, none⟩ = some (.int .i64 m)) : @CallOk (mkSig p.sv p.iv) Tryz.prog w₀ B (tKnown b) := by
  letI := mkSig p.sv p.iv
  intro ρ h w f args args' v h' hr hargs hcall
  unfold tKnown at hcall
  split at hcall
  · rename_i hf
    have := nbeq.1 hf
    subst this
    split at hcall
    · simp only [Option.some.injEq, Prod.mk.injEq] at hcall
      obtain ⟨rfl, rfl⟩ := hcall
      have := conL_nilI hargs
      subst this
      refine ⟨⟨Tryz.f11, Tryz.func11, by kernel_rfl⟩, ?_⟩
      have hcell : w.cell? ⟨0, 0, none⟩ = some (.int .i64 m) := by
        rw [← hm]
        unfold World.cell?
        rw [hr.base 0 hB]
      refine (lives_ok w hcell).mono fun e w' ⟨he, hb⟩ => ?_
      exact ⟨ρ, _, he, below_adv hr hb, con_b ρ true⟩
    · simp at hcall
  · simp only [grd_some] at hcall
    obtain ⟨hb, hcall⟩ := hcall
    have hg := hg hb
    split at hcall
    · rename_i hf
      exact joinK_ok p hg ρ h w f args args' v h' hr hargs (by simp only [hf]; exact hcall)
    · simp only [grd_some, Bool.or_eq_true, nbeq] at hcall
      obtain ⟨hf, hcall⟩ := hcall
      split at hcall
      · rename_i x
        simp only [bnd, Option.some.injEq, Prod.mk.injEq] at hcall
        obtain ⟨u, hu, rfl, rfl⟩ := hcall
        obtain ⟨x', hx, rfl⟩ := conL1 hargs
        simp only [tellNum, bnd] at hu
        obtain ⟨j, hj, hu⟩ := hu
        have hn := hg.num f hf w
        refine ⟨?_, ?_⟩
        · rcases hf with rfl | rfl
          · exact ⟨Tryz.f25, Tryz.func25, by kernel_rfl⟩
          · exact ⟨Tryz.f27, Tryz.func27, by kernel_rfl⟩
        · split at hu <;> simp only [Option.some.injEq, reduceCtorEq] at hu <;> subst hu
          · have := atom_con (iname_in (sv := p.sv) (iv := p.iv) hj (p := (.i64, p.err)) rfl) hx
            subst this
            exact hn.1.mono fun e w' ⟨he, hb⟩ => ⟨ρ, _, he, below_adv hr hb, atom_some ρ (S_ok p 4 (by omega))⟩
          · have := atom_con (iname_in (sv := p.sv) (iv := p.iv) hj (p := (.i64, p.line)) rfl) hx
            subst this
            exact hn.2.1.mono fun e w' ⟨he, hb⟩ => ⟨ρ, _, he, below_adv hr hb, atom_some ρ (S_ok p 5 (by omega))⟩
          · have := atom_con (iname_in (sv := p.sv) (iv := p.iv) hj (p := (.i64, p.col)) rfl) hx
            subst this
            exact hn.2.2.mono fun e w' ⟨he, hb⟩ => ⟨ρ, _, he, below_adv hr hb, atom_some ρ (S_ok p 6 (by omega))⟩
      · simp at hcall

def _root_.Go.Sim.Prb.value (p : Prb) : Value := .agg ⟨[.int .i64 p.err, .string ⟨⟨p.g⟩⟩, .string ⟨⟨p.a⟩⟩, .string ⟨⟨p.v⟩⟩, .int .i64 p.off, .int .i64 p.line, .int .i64 p.col, .string ⟨⟨p.wh⟩⟩]⟩

theorem tell_run (p : Prb) (b : Bool) (hg : b = true → Good p) {M : Nat} (hM : 1 ≤ M) (hM' : M ≤ 2 ^ 50) (hs : ∀ i, (p.sv i).length ≤ M) (ht : isTrue (tellRun b p.asks) = true) (w : World) {m : Int} (hm : w.cell? ⟨0, 0, none⟩ = some (.int .i64 m)) :
    Calls Tryz.prog 4 #[p.value] w fun e w' => e = .returned (.bool true) ∧ Below w.heap.size w w' := by
  letI := mkSig p.sv p.iv
  obtain ⟨h', e⟩ := isTrue_some ht
  have hB : 0 < w.heap.size := by
    rcases Nat.eq_zero_or_pos w.heap.size with h | h
    · unfold World.cell? at hm
      rw [Array.getElem?_eq_none (by omega)] at hm
      simp at hm
    · exact h
  have := runCallF_ok (extOk (tOra_ok p hM hM' hs)) follows (tKnown_ok p b hg (w₀ := w) (B := w.heap.size) hB hm) 100000
  have hargs : conL (fun _ => none) [prbAV] = some [p.value] := by
    refine conL_one (con_agg ?_)
    have i0 : atom (.opq 0) = some (.int .i64 p.err) := opq_even (j := 0) rfl
    have i1 : atom (.opq 2) = some (.int .i64 p.off) := opq_even (j := 1) rfl
    have i2 : atom (.opq 4) = some (.int .i64 p.line) := opq_even (j := 2) rfl
    have i3 : atom (.opq 6) = some (.int .i64 p.col) := opq_even (j := 3) rfl
    simp only [conL, atom_some _ i0, atom_some _ i1, atom_some _ i2, atom_some _ i3, atom_some _ (S_ok p 0 (by omega)), atom_some _ (S_ok p 1 (by omega)), atom_some _ (S_ok p 2 (by omega)), atom_some _ (S_ok p 3 (by omega)), Option.bind_some]
    rfl
  obtain ⟨_, hc⟩ := this (fun _ => none) ⟨.nil, 0⟩ w 4 [prbAV] _ (.bool true) h' (rel_empty w) hargs e
  refine hc.mono fun e w' ⟨ρ', x, he, ha, hx⟩ => ?_
  rw [con_bool hx] at he
  exact ⟨he, adv_below (fun id => T.get_nil id) ha⟩

theorem in_all (z0 zg za zv zo zl zc zw : Bool) : isTrue (tellRun true ⟨false, false, false, false, false, z0, zg, za, zv, zo, zl, zc, zw⟩) = true := by
  have h : (both fun zc => both fun zw => inner zo zl zc zw) = true := by
    cases zo <;> cases zl
    · exact in_a
    · exact in_b
    · exact in_c
    · exact in_d
  exact both_at (both_at (both_at (both_at (both_at (both_at h zc) zw) z0) zg) za) zv

set_option maxRecDepth 100000 in
/-- THE LAW's FUNCTION RETURNS TRUE OF ANY PROBLEM whose texts are of at most 2^47 bytes. -/
theorem tells (err off line col : Int) (g a v wh : List UInt8) (he : err < 9223372036854775808) (hl : line < 9223372036854775808) (hc : col < 9223372036854775808)
    (hg : g.length ≤ 2 ^ 47) (ha : a.length ≤ 2 ^ 47) (hv : v.length ≤ 2 ^ 47) (hw : wh.length ≤ 2 ^ 47) (w : World) {m : Int} (hm : w.cell? ⟨0, 0, none⟩ = some (.int .i64 m)) :
    Calls Tryz.prog 4 #[.agg ⟨[.int .i64 err, .string ⟨⟨g⟩⟩, .string ⟨⟨a⟩⟩, .string ⟨⟨v⟩⟩, .int .i64 off, .int .i64 line, .int .i64 col, .string ⟨⟨wh⟩⟩]⟩] w fun e w' => e = .returned (.bool true) ∧ Below w.heap.size w w' := by
  have key : ∀ p : Prb, p.err = err → p.g = g → p.a = a → p.v = v → p.off = off → p.line = line → p.col = col → p.wh = wh → p.te.length ≤ 19 → p.tl.length ≤ 19 → p.tc.length ≤ 19 → p.asks.c0 = true ∨ p.asks.c1 = true ∨ p.asks.c2 = true ∨ p.asks.c3 = true ∨ p.asks.c4 = true →
      Calls Tryz.prog 4 #[p.value] w fun e w' => e = .returned (.bool true) ∧ Below w.heap.size w w' := by
    intro p e1 e2 e3 e4 e5 e6 e7 e8 t1 t2 t3 hout
    refine tell_run p false (by simp) (M := 2 ^ 47) (by decide) (by decide) (fun i => ?_) ?_ w hm
    · unfold Prb.sv
      have h19 : 19 ≤ 2 ^ 47 := by decide
      split
      · rw [e2]; exact hg
      · rw [e3]; exact ha
      · rw [e4]; exact hv
      · rw [e8]; exact hw
      · omega
      · omega
      · omega
      · exact Nat.zero_le _
    · generalize p.asks = t at hout
      obtain ⟨c0, c1, c2, c3, c4, z0, zg, za, zv, zo, zl, zc, zw⟩ := t
      simp only at hout
      cases c0 with
      | true => exact out0 ..
      | false => cases c1 with
        | true => exact out1 ..
        | false => cases c2 with
          | true => exact out2 ..
          | false => cases c3 with
            | true => exact out3 ..
            | false => cases c4 with
              | true => exact out4 ..
              | false => simp at hout
  by_cases hout : err < 0 ∨ line < 0 ∨ col < 0 ∨ (wh.length : Int) > 2000 ∨ (Prb.sum2 ⟨err, g, a, v, off, line, col, wh, [], [], []⟩) > 2000
  · refine key ⟨err, g, a, v, off, line, col, wh, [], [], []⟩ rfl rfl rfl rfl rfl rfl rfl rfl (by simp) (by simp) (by simp) ?_
    simp only [Prb.asks, decide_eq_true_eq]
    exact hout
  · have h0 : 0 ≤ err ∧ 0 ≤ line ∧ 0 ≤ col ∧ (wh.length : Int) ≤ 2000 ∧ (Prb.sum2 ⟨err, g, a, v, off, line, col, wh, [], [], []⟩) ≤ 2000 := by omega
    obtain ⟨h1, h2, h3, h4, h5⟩ := h0
    obtain ⟨en, rfl⟩ := Int.eq_ofNat_of_zero_le h1
    obtain ⟨ln, rfl⟩ := Int.eq_ofNat_of_zero_le h2
    obtain ⟨cn, rfl⟩ := Int.eq_ofNat_of_zero_le h3
    obtain ⟨te, te1, te2, te3⟩ := numbers en (by omega)
    obtain ⟨tl, tl1, tl2, tl3⟩ := numbers ln (by omega)
    obtain ⟨tc, tc1, tc2, tc3⟩ := numbers cn (by omega)
    have p47 : (2 : Nat) ^ 47 = 140737488355328 := by decide
    have s1 : IntKind.i64.wrap ((g.length : Int) + (a.length : Int)) = (g.length : Int) + (a.length : Int) := by rw [IntKind.wrap_i64]; omega
    have s2 : IntKind.i64.wrap ((g.length : Int) + (a.length : Int) + (v.length : Int)) = (g.length : Int) + (a.length : Int) + (v.length : Int) := by rw [IntKind.wrap_i64]; omega
    simp only [Prb.sum2, Prb.sum1, s1, s2] at h5
    let p : Prb := ⟨(en : Int), g, a, v, off, (ln : Int), (cn : Int), wh, te, tl, tc⟩
    have hsm : ∀ i, (p.sv i).length ≤ 4000 := fun i => by
      unfold Prb.sv
      split
      · show g.length ≤ 4000; omega
      · show a.length ≤ 4000; omega
      · show v.length ≤ 4000; omega
      · show wh.length ≤ 4000; omega
      · show te.length ≤ 4000; omega
      · show tl.length ≤ 4000; omega
      · show tc.length ≤ 4000; omega
      · exact Nat.zero_le _
    have hgood : Good p := ⟨fun f hf w => by
      rcases hf with rfl | rfl
      · exact ⟨te2 w, tl2 w, tc2 w⟩
      · exact ⟨te3 w, tl3 w, tc3 w⟩, hsm⟩
    refine tell_run p true (fun _ => hgood) (M := 4000) (by decide) (by decide) hsm ?_ w hm
    have hask : p.asks = ⟨false, false, false, false, false, p.asks.z0, p.asks.zg, p.asks.za, p.asks.zv, p.asks.zo, p.asks.zl, p.asks.zc, p.asks.zw⟩ := by
      have a0 : p.asks.c0 = false := by
        show decide ((en : Int) < 0) = false
        exact decide_eq_false (by omega)
      have a1 : p.asks.c1 = false := by
        show decide ((ln : Int) < 0) = false
        exact decide_eq_false (by omega)
      have a2 : p.asks.c2 = false := by
        show decide ((cn : Int) < 0) = false
        exact decide_eq_false (by omega)
      have a3 : p.asks.c3 = false := decide_eq_false (by show ¬ ((wh.length : Int) > 2000); omega)
      have a4 : p.asks.c4 = false := decide_eq_false (by
        show ¬ (IntKind.i64.wrap (IntKind.i64.wrap ((g.length : Int) + (a.length : Int)) + (v.length : Int)) > 2000)
        rw [s1, s2]
        omega)
      generalize p.asks = t at *
      obtain ⟨c0, c1, c2, c3, c4, z0, zg, za, zv, zo, zl, zc, zw⟩ := t
      simp only at a0 a1 a2 a3 a4
      subst a0; subst a1; subst a2; subst a3; subst a4
      rfl
    rw [hask]
    exact in_all ..
end Go.Proofs.YtenlpijbhhfahaaGreatDoor
