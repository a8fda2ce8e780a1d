/- The law's function of ConsoleWords returns true. -/
import Derived.Test.YtenlpijbhhfahaaGreatDoorWk9
import Derived.Deep.Onto
set_option linter.all false
namespace Go.Proofs.YtenlpijbhhfahaaGreatDoor
open Go Go.RowKit Go.IntWalk

set_option maxHeartbeats 1000000 in
theorem cut_any (s : ByteArray) (w : World) (hs : s.size ≤ maxLen) : Calls Tryz.prog 6 #[.string s] w fun e w' => ∃ t : ByteArray, t.size ≤ 2000 ∧ e = .returned (.string t) ∧ w = w' := by
  unfold maxLen at hs
  go_enter Tryz.func6, Tryz.ntmps6
  go_wp2
  go_ret
  exact ⟨_, by rw [ByteArray.size_extract]; omega, rfl, rfl⟩

theorem own_shape {w : World} {base n : Nat} {v : Value} {xs : List Value} (h : w.ownsRow base 9 1 v n xs) : ∃ ao cap, v = .slice ao n cap ∧ n ≤ maxLen ∧ (0 < n → ∃ g, ao = some ⟨g, 0, none⟩ ∧ base ≤ g) := by
  rcases h.2 with ⟨h1, h2⟩ | ⟨g, cap, cur, rfl, hg, _, hn, hc, _⟩
  · exact ⟨none, 0, by rw [h1, h2], by omega, fun h => by omega⟩
  · exact ⟨_, cap, rfl, by omega, fun _ => ⟨g, rfl, hg⟩⟩

theorem cwords_zero {l : List UInt8} (h : (cwords l).length = 0) : wordOf l = [] := by
  cases hw : wordOf l with
  | nil => rfl
  | cons c r =>
    rw [cwords_go (by rw [hw]; simp)] at h
    simp at h

theorem cwords_head {l : List UInt8} (h : 0 < (cwords l).length) : (cwords l)[0]? = some (wordOf l) := by
  by_cases hw : wordOf l = []
  · rw [cwords_stop hw] at h; simp at h
  · rw [cwords_go hw]; rfl

/-- What the two functions of words leave: a slice of n, its cells. -/
structure Holds (w : World) (base : Nat) (ao : Option Addr) (n : Nat) (f : Nat → ByteArray) : Prop where
  some : 0 < n → ∃ g, ao = some ⟨g, 0, none⟩ ∧ base ≤ g ∧ ∀ k, k < n → w.cell? ⟨g, k, none⟩ = some (.string (f k))

def wordAt (l : List UInt8) (k : Nat) : ByteArray := ⟨⟨((cwords l)[k]?).getD []⟩⟩

theorem holds_of {w : World} {base : Nat} {v : Value} {l : List UInt8} (h : w.ownsRow base 9 1 v (cwords l).length ((cwords l).map strV)) :
    ∃ ao cap, v = .slice ao (cwords l).length cap ∧ Holds w base ao (cwords l).length (wordAt l) := by
  obtain ⟨ao, cap, rfl, _, ho⟩ := own_shape h
  refine ⟨ao, cap, rfl, ⟨fun hn => ?_⟩⟩
  obtain ⟨g, rfl, hg⟩ := ho hn
  refine ⟨g, rfl, hg, fun k hk => ?_⟩
  rw [h.cellAt k (by omega), List.getElem?_map, List.getElem?_eq_getElem hk]
  simp only [wordAt, List.getElem?_eq_getElem hk]
  rfl

theorem Holds.kept {w w' : World} {base : Nat} {ao : Option Addr} {n : Nat} {f : Nat → ByteArray} (h : Holds w base ao n f) (hb : Below w.heap.size w w') : Holds w' base ao n f :=
  ⟨fun hn => by
    obtain ⟨g, h1, h2, h3⟩ := h.some hn
    refine ⟨g, h1, h2, fun k hk => ?_⟩
    rw [hb.cell (World.block_lt_of_cell? w _ (h3 k hk))]
    exact h3 k hk⟩

theorem wordsN_len : ∀ (n : Nat) (l : List UInt8), (wordsN n l).length ≤ n
  | 0, _ => Nat.le_refl _
  | n + 1, l => by
    unfold wordsN
    split
    · simp
    · have := wordsN_len n (restOf l)
      simp; omega

theorem cwords_le (l : List UInt8) : (cwords l).length ≤ l.length := wordsN_len _ _

theorem rwords_c (s : ByteArray) (w : World) (hs : s.size ≤ 2000) (n : Nat) (hn : (cwords s.data.toList).length = n) :
    Calls Tryz.prog 7 #[.string s] w fun e w' => ∃ ao cap, e = .returned (.slice ao n cap) ∧ Holds w' 0 ao n (wordAt s.data.toList) ∧ Below w.heap.size w w' := by
  have := rwords_any s w hs
  rw [words_eq] at this
  refine this.mono ?_
  rintro e w' ⟨v, rfl, h, hb⟩
  obtain ⟨ao, cap, rfl, hh⟩ := holds_of (h.mono (Nat.zero_le _))
  subst hn
  exact ⟨ao, cap, rfl, hh, hb⟩

theorem words_c (s : ByteArray) (w : World) (hs : s.size ≤ 2000) (n : Nat) (hn : (cwords s.data.toList).length = n) :
    Calls Tryz.prog 8 #[.string s] w fun e w' => ∃ ao cap, e = .returned (.slice ao n cap) ∧ Holds w' 0 ao n (wordAt s.data.toList) ∧ Below w.heap.size w w' := by
  refine (words_any s w hs).mono ?_
  rintro e w' ⟨v, rfl, h, hb⟩
  obtain ⟨ao, cap, rfl, hh⟩ := holds_of (h.mono (Nat.zero_le _))
  subst hn
  exact ⟨ao, cap, rfl, hh, hb⟩

set_option maxRecDepth 1000000 in
set_option maxHeartbeats 4000000 in
theorem words_law (s : ByteArray) (w : World) (hs : s.size ≤ maxLen) {m : Int} (hm : w.cell? ⟨0, 0, none⟩ = some (.int .i64 m)) :
    Calls Tryz.prog 3 #[.string s] w fun e w' => e = .returned (.bool true) ∧ Below w.heap.size w w' := by
  have hB : 0 < w.heap.size := World.block_lt_of_cell? w _ hm
  go_enter Tryz.func3, Tryz.ntmps3
  go_wp2_with (go_at_call 6; refine (cut_any _ _ hs).mono ?_; rintro e w' ⟨t, ht, rfl, rfl⟩)
  obtain ⟨n, hn⟩ : ∃ n, (cwords t.data.toList).length = n := ⟨_, rfl⟩
  have hn2 : n ≤ 2000 := by
    have := cwords_le t.data.toList
    have e : t.data.toList.length = t.size := rfl
    omega
  have htm : t.size ≤ maxLen := by unfold maxLen; omega
  by_cases h0 : n = 0
  · subst h0
    have hw := cwords_zero hn
    have HN := Lib.hid hn
    clear hn
    go_wp2_with (first
      | (go_at_call 7; refine (rwords_c _ _ ht _ HN.out).mono ?_; rintro e w1 ⟨ao1, cap1, rfl, hh1, hb1⟩)
      | (go_at_call 8; refine (words_c _ _ ht _ HN.out).mono ?_; rintro e w2 ⟨ao2, cap2, rfl, hh2, hb2⟩)
      | (go_at_call 9; refine (split_any _ _ htm).mono ?_; rintro e w3 ⟨rfl, nd, rfl⟩)
      | (go_at_call 10; refine (rest_any _ _ ht).mono ?_; rintro e w4 ⟨rfl, hb4⟩)
      | fail)
    have hbw0 : Below w.heap.size w w4 := by
      have a1 := hb1
      have a2 := a1.trans (hb2.mono a1.size)
      have a3 := below_drewN a2 nd
      exact a3.trans (hb4.mono a3.size)
    clear hb1 hb2 hb4
    go_loopw [41] (fun i wr => i = .int .i64 0 ∧ Below w.heap.size w wr) (fun _ _ => 0)
    case atStart => exact ⟨rfl, hbw0⟩
    case round =>
      obtain ⟨rfl, hbw⟩ := hrel
      have hm' : wr.cell? ⟨0, 0, none⟩ = some (.int .i64 m) := by rw [hbw.cell (p := ⟨0, 0, none⟩) hB]; exact hm
      go_wp2_with ((go_at_call 11; refine (lives_ok _ hm').mono ?_; rintro e w5 ⟨rfl, hb5⟩))
      go_ret
      exact ⟨rfl, hbw.trans (hb5.mono hbw.size)⟩
  · have hpos : 0 < n := by omega
    have HH : Hid ((cwords t.data.toList)[0]? = some (wordOf t.data.toList)) := cwords_head (by omega)
    have HN := Lib.hid hn
    clear hn
    go_wp2_with (first
      | (go_at_call 7; refine (rwords_c _ _ ht _ HN.out).mono ?_; rintro e w1 ⟨ao1, cap1, rfl, hh1, hb1⟩)
      | (go_at_call 8; refine (words_c _ _ ht _ HN.out).mono ?_; rintro e w2 ⟨ao2, cap2, rfl, hh2, hb2⟩)
      | (go_at_call 9; refine (split_any _ _ htm).mono ?_; rintro e w3 ⟨rfl, nd, rfl⟩)
      | (go_at_call 10; refine (rest_any _ _ ht).mono ?_; rintro e w4 ⟨rfl, hb4⟩)
      | fail)
    have hbw0 : Below w.heap.size w w4 := by
      have a1 := hb1
      have a2 := a1.trans (hb2.mono a1.size)
      have a3 := below_drewN a2 nd
      exact a3.trans (hb4.mono a3.size)
    have k2 := (hh2.kept (below_drewN (Below.refl _ _) nd)).kept hb4
    have k1 := ((hh1.kept hb2).kept (below_drewN (Below.refl _ _) nd)).kept hb4
    clear hb1 hb2 hb4 hh1 hh2
    obtain ⟨g1, rfl, _, _⟩ := k1.some hpos
    obtain ⟨g2, rfl, _, _⟩ := k2.some hpos
    go_loopw [41] (fun i wr => ∃ k : Nat, k ≤ n ∧ i = .int .i64 k ∧ (∀ j, j < n → wr.cell? ⟨g1, j, none⟩ = some (.string (wordAt t.data.toList j))) ∧ (∀ j, j < n → wr.cell? ⟨g2, j, none⟩ = some (.string (wordAt t.data.toList j))) ∧ Below w.heap.size w wr) (fun i _ => n - (intOf i).toNat)
    case atStart => exact ⟨0, Nat.zero_le _, rfl, by assumption, by assumption, hbw0⟩
    case round =>
      obtain ⟨k, hk, rfl, h1, h2, hbw⟩ := hrel
      by_cases hkn : k < n
      · have c1 := h1 k hkn
        have c2 := h2 k hkn
        by_cases hk0 : k = 0
        · subst hk0
          have e0 : wordAt t.data.toList 0 = ⟨⟨wordOf t.data.toList⟩⟩ := by unfold wordAt; rw [HH.out]; rfl
          rw [e0] at c1 c2
          have H1 := Lib.hid h1
          have H2 := Lib.hid h2
          clear h1 h2 e0
          go_wp2
          go_quiet (fail)
          go_wp2
          go_roundw
          case rel => exact ⟨1, by omega, by go_num, fun j hj => H1.out j hj, fun j hj => H2.out j hj, below_drewN hbw nq⟩
          case measure => show n - ((1 : Int)).toNat < n - ((0 : Nat) : Int).toNat; omega
        · have H1 := Lib.hid h1
          have H2 := Lib.hid h2
          have hkz : ((k : Int) == 0) = false := beq_eq_false_iff_ne.2 (by omega)
          clear h1 h2
          go_wp2
          go_quiet (fail)
          go_wp2
          go_roundw
          case rel => exact ⟨k + 1, by omega, by go_num, fun j hj => H1.out j hj, fun j hj => H2.out j hj, below_drewN hbw nq⟩
          case measure => simp [intOf]; omega
      · have hke : k = n := by omega
        subst hke
        have hm' : wr.cell? ⟨0, 0, none⟩ = some (.int .i64 m) := by rw [hbw.cell (p := ⟨0, 0, none⟩) hB]; exact hm
        go_wp2_with ((go_at_call 11; refine (lives_ok _ hm').mono ?_; rintro e w5 ⟨rfl, hb5⟩))
        go_ret
        exact ⟨rfl, hbw.trans (hb5.mono hbw.size)⟩
end Go.Proofs.YtenlpijbhhfahaaGreatDoor
