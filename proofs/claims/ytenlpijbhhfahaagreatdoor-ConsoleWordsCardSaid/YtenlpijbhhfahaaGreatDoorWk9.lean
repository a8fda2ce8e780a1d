/- The plain law: words by scanning are words by Split over and over. -/
import Derived.Test.YtenlpijbhhfahaaGreatDoorWk8
set_option linter.all false
namespace Go.Proofs.YtenlpijbhhfahaaGreatDoor
open Go

theorem scan_nil (word : List UInt8) : scan [] word = if word = [] then [] else [word] := by rw [scan]
theorem scan_cons (c : UInt8) (l word : List UInt8) : scan (c :: l) word = if blk c then (if word = [] then scan l [] else word :: scan l []) else scan l (word ++ [c]) := by rw [scan]

theorem scan_snoc {c : UInt8} (hb : blk c = true) (l : List UInt8) : ∀ word, scan (l ++ [c]) word = scan l word := by
  induction l with
  | nil =>
    intro word
    rw [List.nil_append, scan_cons, if_pos hb, scan_nil, scan_nil, if_pos rfl]
  | cons d l ih =>
    intro word
    rw [List.cons_append, scan_cons, scan_cons, ih, ih]

theorem scan_rtrim : ∀ (n : Nat) (l word : List UInt8), l.length = n → scan (rtrim l) word = scan l word
  | 0, l, word, h => by
    have : l = [] := List.length_eq_zero_iff.1 h
    subst this
    rw [rtrim_nil]
  | n + 1, l, word, h => by
    rcases List.eq_nil_or_concat l with rfl | ⟨l', c, rfl⟩
    · rw [rtrim_nil]
    · rw [List.concat_eq_append] at h ⊢
      rw [rtrim_snoc]
      split
      · rename_i hb
        rw [scan_snoc hb, scan_rtrim n l' word (by simpa using h)]
      · rfl

theorem scan_lead : ∀ l : List UInt8, scan (l.drop (lead l)) [] = scan l []
  | [] => rfl
  | c :: l => by
    unfold lead
    split
    · rename_i hb
      rw [List.drop_succ_cons, scan_lead l, scan_cons, if_pos hb, if_pos rfl]
    · rfl

theorem scan_trim (l : List UInt8) : scan (trim l) [] = scan l [] := by
  unfold trim
  rw [scan_rtrim _ _ _ rfl, scan_lead]

theorem lead_head : ∀ (l : List UInt8) (c : UInt8) (r : List UInt8), l.drop (lead l) = c :: r → blk c = false
  | [], c, r, h => by simp at h
  | d :: l, c, r, h => by
    unfold lead at h
    split at h
    · rw [List.drop_succ_cons] at h
      exact lead_head l c r h
    · rename_i hb
      rw [List.drop_zero] at h
      simp only [List.cons.injEq] at h
      rw [← h.1]
      simpa using hb

theorem trim_head {l : List UInt8} {c : UInt8} {r : List UInt8} (h : trim l = c :: r) : blk c = false := by
  unfold trim rtrim at h
  cases hd : l.drop (lead l) with
  | nil => rw [hd] at h; simp at h
  | cons d m =>
    rw [hd] at h
    have := lead_head l d m hd
    have hc : (List.take ((d :: m).length - lead (d :: m).reverse) (d :: m))[0]? = some c := by rw [h]; rfl
    rw [List.getElem?_take] at hc
    split at hc
    · simp at hc; rw [← hc]; exact this
    · simp at hc

theorem scan_take : ∀ (l word : List UInt8), scan l word = scan (l.drop (wl l)) (word ++ l.take (wl l))
  | [], word => by simp [wl]
  | c :: l, word => by
    unfold wl
    split
    · simp
    · rename_i hb
      rw [scan_cons, if_neg hb, scan_take l, List.drop_succ_cons, List.take_succ_cons, List.append_assoc]
      rfl

theorem wl_drop : ∀ (l : List UInt8) (c : UInt8) (r : List UInt8), l.drop (wl l) = c :: r → blk c = true
  | [], c, r, h => by simp at h
  | d :: l, c, r, h => by
    unfold wl at h
    split at h
    · rename_i hb
      rw [List.drop_zero] at h
      simp only [List.cons.injEq] at h
      rw [← h.1]
      exact hb
    · rw [List.drop_succ_cons] at h
      exact wl_drop l c r h

theorem scan_word_shut {l word : List UInt8} (hw : word ≠ []) (h : ∀ c r, l = c :: r → blk c = true) : scan l word = word :: scan l [] := by
  cases l with
  | nil => rw [scan_nil, if_neg hw, scan_nil, if_pos rfl]
  | cons c r => rw [scan_cons, if_pos (h c r rfl), if_neg hw, scan_cons, if_pos (h c r rfl), if_pos rfl]

theorem word_none {l : List UInt8} (h : wordOf l = []) : trim l = [] := by
  cases ht : trim l with
  | nil => rfl
  | cons c r =>
    unfold wordOf at h
    rw [ht] at h
    have hb := trim_head ht
    unfold wl at h
    rw [if_neg (by rw [hb]; simp)] at h
    simp at h

theorem scan_step (l : List UInt8) : scan l [] = if wordOf l = [] then [] else wordOf l :: scan (restOf l) [] := by
  split
  · rename_i h
    rw [← scan_trim, word_none h, scan_nil, if_pos rfl]
  · rename_i h
    rw [← scan_trim, scan_take, List.nil_append]
    have e : (trim l).take (wl (trim l)) = wordOf l := rfl
    rw [e, scan_word_shut h (fun c r hc => wl_drop (trim l) c r hc)]
    congr 1
    unfold restOf
    rw [scan_trim]

theorem words_same : ∀ (n : Nat) (l : List UInt8), l.length ≤ n → cwords l = scan l []
  | 0, l, h => by
    have : l = [] := List.length_eq_zero_iff.1 (by omega)
    subst this
    rfl
  | n + 1, l, h => by
    by_cases hw : wordOf l = []
    · rw [cwords_stop hw, scan_step, if_pos hw]
    · rw [cwords_go hw, scan_step, if_neg hw, words_same n (restOf l) (by have := restOf_lt hw; omega)]

theorem words_eq (l : List UInt8) : scan l [] = cwords l := (words_same _ l (Nat.le_refl _)).symm
end Go.Proofs.YtenlpijbhhfahaaGreatDoor
