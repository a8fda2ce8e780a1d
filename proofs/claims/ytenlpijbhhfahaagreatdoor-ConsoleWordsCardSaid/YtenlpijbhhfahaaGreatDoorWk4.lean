/- The words of a line, by Split over and over. -/
import Derived.Test.YtenlpijbhhfahaaGreatDoorWk3
import Derived.WalkSmall
set_option linter.all false
namespace Go.Proofs.YtenlpijbhhfahaaGreatDoor
open Go Go.RowKit Go.IntWalk

theorem wl_pos_of {l : List UInt8} (h : l.take (wl l) ≠ []) : 0 < wl l := by
  rcases Nat.eq_zero_or_pos (wl l) with h0 | h0
  · rw [h0] at h; simp at h
  · exact h0

theorem restOf_lt {l : List UInt8} (h : wordOf l ≠ []) : (restOf l).length < l.length := by
  have h0 := wl_pos_of h
  have h1 := trim_len ((trim l).drop (wl (trim l)))
  have h2 := trim_len l
  have h3 := wl_le (trim l)
  unfold restOf
  rw [List.length_drop] at h1
  omega

def wordsN : Nat → List UInt8 → List (List UInt8)
  | 0, _ => []
  | n + 1, l => if wordOf l = [] then [] else wordOf l :: wordsN n (restOf l)

theorem wordOf_nil : wordOf [] = [] := rfl

theorem wordsN_eq : ∀ (n m : Nat) (l : List UInt8), l.length ≤ n → l.length ≤ m → wordsN n l = wordsN m l
  | 0, 0, _, _, _ => rfl
  | 0, m + 1, l, h, _ => by
    have : l = [] := List.length_eq_zero_iff.1 (by omega)
    subst this
    unfold wordsN
    rw [wordOf_nil, if_pos rfl]
  | n + 1, 0, l, _, h => by
    have : l = [] := List.length_eq_zero_iff.1 (by omega)
    subst this
    unfold wordsN
    rw [wordOf_nil, if_pos rfl]
  | n + 1, m + 1, l, h, h' => by
    unfold wordsN
    split
    · rfl
    · rename_i hw
      have := restOf_lt hw
      rw [wordsN_eq n m (restOf l) (by omega) (by omega)]

def cwords (l : List UInt8) : List (List UInt8) := wordsN l.length l

theorem cwords_stop {l : List UInt8} (h : wordOf l = []) : cwords l = [] := by
  unfold cwords
  cases hl : l.length with
  | zero => rfl
  | succ n => unfold wordsN; rw [if_pos h]

theorem cwords_go {l : List UInt8} (h : wordOf l ≠ []) : cwords l = wordOf l :: cwords (restOf l) := by
  unfold cwords
  have := restOf_lt h
  cases hl : l.length with
  | zero => omega
  | succ n =>
    rw [wordsN, if_neg h, wordsN_eq n (restOf l).length (restOf l) (by omega) (Nat.le_refl _)]

def strV (l : List UInt8) : Value := .string ⟨⟨l⟩⟩

def byteLen (v : Value) : Nat := strLen v

theorem Tryz.info9 : (Tryz.prog.info? 9).map (fun i => (i.zero, i.size, i.bytes)) = some (some (.string ⟨#[]⟩), 1, 16) := by kernel_rfl

theorem ownsRow_drewN {w : World} {base : Nat} {e : TypeId} {size : Nat} {v : Value} {n : Nat} {xs : List Value} (h : w.ownsRow base e size v n xs) (k : Nat) : (w.drewN k).ownsRow base e size v n xs := h

theorem cell_one_new (w : World) (a : Value) (t : TypeId) : ∀ j u, [a][j]? = some u → (w.alloc (.cells #[a] t)).cell? ((⟨w.heap.size, 0, none⟩ : Addr).add j) = some u := by
  intro j u hj
  match j, hj with
  | 0, hj => simp at hj; subst hj; simp [Addr.add]
  | j + 1, hj => simp at hj

theorem arr_empty {l : List UInt8} : (⟨⟨l⟩⟩ : ByteArray).toList.isEmpty = l.isEmpty := by rw [ByteArray.toList_eq]

set_option maxRecDepth 1000000 in
set_option maxHeartbeats 1000000 in
theorem words_any (s : ByteArray) (w : World) (hs : s.size ≤ 2000) :
    Calls Tryz.prog 8 #[.string s] w fun e w' => ∃ v, e = .returned v ∧ w'.ownsRow w.heap.size 9 1 v (cwords s.data.toList).length ((cwords s.data.toList).map strV) ∧ Below w.heap.size w w' := by
  obtain ⟨i0, hi, hz0, hz1, hz2⟩ := info_parts Tryz.info9
  go_enter Tryz.func8, Tryz.ntmps8
  go_wp2
  go_loopw [0, 2] (fun a v wr => ∃ (t : ByteArray) (done : List (List UInt8)), a = .string t ∧ done.length + t.size ≤ s.size ∧ Hid (done ++ cwords t.data.toList = cwords s.data.toList) ∧ wr.ownsRow w.heap.size 9 1 v done.length (done.map strV) ∧ Below w.heap.size w wr) (fun a _ _ => strLen a)
  case atStart => exact ⟨s, [], rfl, by simp, rfl, World.ownsRow_nil _ _ _ _, Below.refl _ _⟩
  case round =>
    obtain ⟨t, done, rfl, hlen, HD, hown, hbw⟩ := hrel
    have htm : t.size ≤ maxLen := by unfold maxLen; omega
    have hsz := hbw.size
    by_cases hw : wordOf t.data.toList = []
    · have HE : Hid (done = cwords s.data.toList) := Lib.hid (by rw [← HD.out, cwords_stop hw, List.append_nil])
      have hemp : ((⟨⟨wordOf t.data.toList⟩⟩ : ByteArray).toList == ([] : List UInt8)) = true := by rw [hw, ByteArray.toList_eq]; rfl
      go_wp2_with ((go_at_call 9; refine (split_any _ _ htm).mono ?_; rintro e w' ⟨rfl, n, rfl⟩))
      go_ret
      exact ⟨_, rfl, by rw [← HE.out]; exact ownsRow_drewN hown n, below_drewN hbw n⟩
    · have HE : Hid ((done ++ [wordOf t.data.toList]) ++ cwords (restOf t.data.toList) = cwords s.data.toList) := Lib.hid (by rw [← HD.out, cwords_go hw, List.append_assoc]; rfl)
      have hne : (wordOf t.data.toList).isEmpty = false := by cases h : wordOf t.data.toList with
        | nil => exact absurd h hw
        | cons _ _ => rfl
      have hrl : (restOf t.data.toList).length < t.size := restOf_lt hw
      go_wp2_with (first
        | (go_at_call 9; refine (split_any _ _ htm).mono ?_; rintro e w' ⟨rfl, nd, rfl⟩)
        | (at_builtin; refine wpList_append_own _ rfl _ _ 23 rfl w.heap.size 9 i0 (.string ⟨#[]⟩) 1 16 Tryz.underlying23 hi hz0 hz1 hz2 rfl (by decide) _ _ _ rfl ((ownsRow_drewN hown nd).alloc _) ⟨wr.heap.size, 0, none⟩ 1 1 [.string ⟨⟨wordOf t.data.toList⟩⟩] rfl rfl (cell_one_new _ _ _) (fun x hx => by simp at hx; subst hx; rfl) (by unfold maxLen; omega) (by omega) (by simp; omega) ?_; intro v' w3 hown' hgrow3 hnil3))
      have hbw3 : Below w.heap.size w w3 := Below.grown ((below_drewN hbw nd).alloc (by simp; omega) _) hgrow3 (by simp; omega) (fun j hj => (hown.lt _ hj).1)
      go_roundw
      case rel => exact ⟨_, done ++ [wordOf t.data.toList], rfl, by simp; show _ + (restOf t.data.toList).length ≤ _; omega, HE.out, by simpa [strV] using hown', hbw3⟩
      case measure => exact hrl
end Go.Proofs.YtenlpijbhhfahaaGreatDoor
