/- The document's Words: byte for byte. -/
import Derived.Test.YtenlpijbhhfahaaGreatDoorWk7
set_option linter.all false
namespace Go.Proofs.YtenlpijbhhfahaaGreatDoor
open Go Go.RowKit Go.IntWalk

/-- What is still to come, with the word so far. -/
def scan : List UInt8 → List UInt8 → List (List UInt8)
  | [], word => if word = [] then [] else [word]
  | c :: l, word => if blk c then (if word = [] then scan l [] else word :: scan l []) else scan l (word ++ [c])

theorem drop_at {l : List UInt8} {k : Nat} (h : k < l.length) : l.drop k = l[k] :: l.drop (k + 1) := List.drop_eq_getElem_cons h

theorem scan_word {l : List UInt8} {k : Nat} {word : List UInt8} (h : k < l.length) (hb : blk l[k] = false) : scan (l.drop k) word = scan (l.drop (k + 1)) (word ++ [l[k]]) := by
  rw [drop_at h, scan, if_neg (by rw [hb]; simp)]

theorem scan_blank {l : List UInt8} {k : Nat} (h : k < l.length) (hb : blk l[k] = true) : scan (l.drop k) [] = scan (l.drop (k + 1)) [] := by
  rw [drop_at h, scan, if_pos hb, if_pos rfl]

theorem scan_shut {l : List UInt8} {k : Nat} {word : List UInt8} (h : k < l.length) (hb : blk l[k] = true) (hw : word ≠ []) : scan (l.drop k) word = word :: scan (l.drop (k + 1)) [] := by
  rw [drop_at h, scan, if_pos hb, if_neg hw]

theorem scan_end0 {l : List UInt8} : scan (l.drop l.length) [] = [] := by
  rw [List.drop_length, scan, if_pos rfl]

theorem scan_end {l : List UInt8} {word : List UInt8} (hw : word ≠ []) : scan (l.drop l.length) word = [word] := by
  rw [List.drop_length, scan, if_neg hw]

theorem one_more {l : List UInt8} {s : ByteArray} {k : Nat} (h : k < s.size) : (⟨⟨l⟩⟩ : ByteArray) ++ s.extract k (k + 1) = ⟨⟨l ++ [s[k]]⟩⟩ := by
  apply ext_l
  rw [ByteArray.data_append, Array.toList_append, extract_l]
  show l ++ _ = l ++ _
  congr 1
  rw [show k + 1 - k = 1 from by omega]
  rw [show s.data.toList.drop k = s.data.toList[k] :: s.data.toList.drop (k + 1) from drop_at h]
  rfl

structure Wd (l : List UInt8) (k : Nat) (done : List (List UInt8)) (word : List UInt8) : Prop where
  le : k ≤ l.length + 1
  go : k ≤ l.length → done ++ scan (l.drop k) word = scan l []
  stop : k = l.length + 1 → done = scan l []
  dl : done.length ≤ k
  wl : word.length ≤ k

theorem wd_start (l : List UInt8) : Wd l 0 [] [] := ⟨by omega, fun _ => rfl, fun h => by omega, Nat.le_refl _, Nat.le_refl _⟩

theorem wd_word {l : List UInt8} {k : Nat} {done : List (List UInt8)} {word : List UInt8} (h : Wd l k done word) (hk : k < l.length) (hb : blk l[k] = false) : Wd l (k + 1) done (word ++ [l[k]]) :=
  ⟨by omega, fun _ => by rw [← scan_word hk hb]; exact h.go (by omega), fun e => by omega, by have := h.dl; omega, by have := h.wl; simp; omega⟩

theorem wd_blank {l : List UInt8} {k : Nat} {done : List (List UInt8)} (h : Wd l k done []) (hk : k < l.length) (hb : blk l[k] = true) : Wd l (k + 1) done [] :=
  ⟨by omega, fun _ => by rw [← scan_blank hk hb]; exact h.go (by omega), fun e => by omega, by have := h.dl; omega, by simp⟩

theorem wd_shut {l : List UInt8} {k : Nat} {done : List (List UInt8)} {word : List UInt8} (h : Wd l k done word) (hk : k < l.length) (hb : blk l[k] = true) (hw : word ≠ []) : Wd l (k + 1) (done ++ [word]) [] :=
  ⟨by omega, fun _ => by rw [← h.go (by omega), scan_shut hk hb hw, List.append_assoc]; rfl, fun e => by omega, by have := h.dl; simp; omega, by simp⟩

theorem wd_end0 {l : List UInt8} {k : Nat} {done : List (List UInt8)} (h : Wd l k done []) (hk : k = l.length) : Wd l (k + 1) done [] :=
  ⟨by omega, fun e => by omega, fun _ => by rw [← h.go (by omega), hk, scan_end0, List.append_nil], by have := h.dl; omega, by simp⟩

theorem wd_end {l : List UInt8} {k : Nat} {done : List (List UInt8)} {word : List UInt8} (h : Wd l k done word) (hk : k = l.length) (hw : word ≠ []) : Wd l (k + 1) (done ++ [word]) [] :=
  ⟨by omega, fun e => by omega, fun _ => by rw [← h.go (by omega), hk, scan_end hw], by have := h.dl; simp; omega, by simp⟩

theorem ownsRow_below {w w' : World} {base : Nat} {e : TypeId} {size : Nat} {v : Value} {n : Nat} {xs : List Value} (h : w.ownsRow base e size v n xs) (hb : Below w.heap.size w w') : w'.ownsRow base e size v n xs := by
  obtain ⟨h1, h2⟩ := h
  refine ⟨h1, ?_⟩
  rcases h2 with h2 | ⟨g, cap, cur, a, b, c, d⟩
  · exact .inl h2
  · exact .inr ⟨g, cap, cur, a, b, by rw [hb.block g (Array.getElem?_eq_some_iff.1 c).1]; exact c, d⟩

theorem isEmpty_of_ne {l : List UInt8} (h : l ≠ []) : l.isEmpty = false := by cases l with
  | nil => exact absurd rfl h
  | cons _ _ => rfl

set_option maxRecDepth 1000000 in
set_option maxHeartbeats 4000000 in
theorem rwords_any (s : ByteArray) (w : World) (hs : s.size ≤ 2000) :
    Calls Tryz.prog 7 #[.string s] w fun e w' => ∃ v, e = .returned v ∧ w'.ownsRow w.heap.size 9 1 v (scan s.data.toList []).length ((scan s.data.toList []).map strV) ∧ Below w.heap.size w w' := by
  obtain ⟨i0, hi, hz0, hz1, hz2⟩ := info_parts Tryz.info9
  have hlen : s.data.toList.length = s.size := rfl
  go_enter Tryz.func7, Tryz.ntmps7
  go_wp2
  go_loopw [3, 4, 5] (fun v a i wr => ∃ (k : Nat) (done : List (List UInt8)) (word : List UInt8), Wd s.data.toList k done word ∧ i = .int .i64 k ∧ a = .string ⟨⟨word⟩⟩ ∧ wr.ownsRow w.heap.size 9 1 v done.length (done.map strV) ∧ Below w.heap.size w wr) (fun _ _ i _ => s.size + 1 - (intOf i).toNat)
  case atStart => exact ⟨0, [], [], wd_start _, rfl, rfl, World.ownsRow_nil _ _ _ _, Below.refl _ _⟩
  case round =>
    obtain ⟨k, done, word, HW, rfl, rfl, hown, hbw⟩ := hrel
    have hsz := hbw.size
    have hk1 : k ≤ s.size + 1 := HW.le
    have hdl : done.length ≤ k := HW.dl
    by_cases hks : k < s.size
    · cases hb : blk s[k] with
      | false =>
        have hx1 : (k : Int) ≤ (k : Int) + 1 := by omega
        have hx2 : (k : Int) + 1 ≤ (s.size : Int) := by omega
        have hx3 : ((k : Int) + 1).toNat = k + 1 := by omega
        have hx4 : k ≤ s.size := by omega
        have hwl : word.length ≤ k := HW.wl
        go_wp2_with ((go_at_call 20; refine (is_any _ _).mono ?_; rintro e w2 ⟨rfl, hb2⟩))
        go_roundw
        case rel => exact ⟨k + 1, done, word ++ [s[k]], wd_word HW hks hb, by go_num, by rw [one_more hks], ownsRow_below hown hb2, hbw.trans (hb2.mono hsz)⟩
        case measure => simp [intOf]; omega
      | true =>
        by_cases hwd : word = []
        · subst hwd
          go_wp2_with ((go_at_call 20; refine (is_any _ _).mono ?_; rintro e w2 ⟨rfl, hb2⟩))
          go_roundw
          case rel => exact ⟨k + 1, done, [], wd_blank HW hks hb, by go_num, rfl, ownsRow_below hown hb2, hbw.trans (hb2.mono hsz)⟩
          case measure => simp [intOf]; omega
        · have hne := isEmpty_of_ne hwd
          have HN := wd_shut HW hks hb hwd
          go_wp2_with (first
        | (go_at_call 20; refine (is_any _ _).mono ?_; rintro e w2 ⟨rfl, hb2⟩; have hown2 := ownsRow_below hown hb2; have hsz2 := hb2.size)
        | (at_builtin; refine wpList_append_own _ rfl _ _ 23 rfl w.heap.size 9 i0 (.string ⟨#[]⟩) 1 16 Tryz.underlying23 hi hz0 hz1 hz2 rfl (by decide) _ _ _ rfl (hown2.alloc _) ⟨w2.heap.size, 0, none⟩ 1 1 [.string ⟨⟨word⟩⟩] rfl rfl (cell_one_new _ _ _) (fun x hx => by simp at hx; subst hx; rfl) (by unfold maxLen; omega) (by omega) (by simp; omega) ?_; intro v' w3 hown' hgrow3 hnil3))
          have hbw2 : Below w.heap.size w w2 := hbw.trans (hb2.mono hsz)
          have hbw3 : Below w.heap.size w w3 := Below.grown (hbw2.alloc (by omega) _) hgrow3 (by simp; omega) (fun j hj => (hown2.lt _ hj).1)
          go_roundw
          case rel => exact ⟨k + 1, done ++ [word], [], HN, by go_num, rfl, by simpa [strV] using hown', hbw3⟩
          case measure => simp [intOf]; omega
    · by_cases hke : k = s.size
      · by_cases hwd : word = []
        · subst hwd
          have HN := wd_end0 HW hke
          go_wp2
          go_roundw
          case rel => exact ⟨k + 1, done, [], HN, by go_num, rfl, hown, hbw⟩
          case measure => simp [intOf]; omega
        · have hne := isEmpty_of_ne hwd
          have HN := wd_end HW hke hwd
          go_wp2_with (first
        | (at_builtin; refine wpList_append_own _ rfl _ _ 23 rfl w.heap.size 9 i0 (.string ⟨#[]⟩) 1 16 Tryz.underlying23 hi hz0 hz1 hz2 rfl (by decide) _ _ _ rfl (hown.alloc _) ⟨wr.heap.size, 0, none⟩ 1 1 [.string ⟨⟨word⟩⟩] rfl rfl (cell_one_new _ _ _) (fun x hx => by simp at hx; subst hx; rfl) (by unfold maxLen; omega) (by omega) (by simp; omega) ?_; intro v' w3 hown' hgrow3 hnil3))
          have hbw3 : Below w.heap.size w w3 := Below.grown (hbw.alloc (by omega) _) hgrow3 (by simp; omega) (fun j hj => (hown.lt _ hj).1)
          go_roundw
          case rel => exact ⟨k + 1, done ++ [word], [], HN, by go_num, rfl, by simpa [strV] using hown', hbw3⟩
          case measure => simp [intOf]; omega
      · have HE : Hid (done = scan s.data.toList []) := HW.stop (by show k = s.size + 1; omega)
        go_wp2
        go_ret
        exact ⟨_, rfl, by rw [← HE.out]; exact hown, hbw⟩
end Go.Proofs.YtenlpijbhhfahaaGreatDoor
