/- Blanks cut off. -/
import Derived.Test.YtenlpijbhhfahaaGreatDoorWk1
set_option linter.all false
namespace Go.Proofs.YtenlpijbhhfahaaGreatDoor
open Go Go.RowKit Go.IntWalk

/-- Without the blanks at the end. -/
def rtrim (l : List UInt8) : List UInt8 := l.take (l.length - lead l.reverse)

def trim (l : List UInt8) : List UInt8 := rtrim (l.drop (lead l))

theorem rtrim_snoc (l : List UInt8) (c : UInt8) : rtrim (l ++ [c]) = if blk c then rtrim l else l ++ [c] := by
  unfold rtrim
  rw [List.reverse_append]
  simp only [List.reverse_cons, List.reverse_nil, List.nil_append, List.singleton_append, List.length_append, List.length_cons, List.length_nil]
  have := lead_le l.reverse
  rw [List.length_reverse] at this
  have e : lead (c :: l.reverse) = if blk c then lead l.reverse + 1 else 0 := rfl
  rw [e]
  split
  · rw [show l.length + (0 + 1) - (lead l.reverse + 1) = l.length - lead l.reverse from by omega]
    rw [List.take_append_of_le_length (by omega)]
  · rw [List.take_of_length_le (by simp)]

theorem rtrim_nil : rtrim [] = [] := rfl

theorem rtrim_len (l : List UInt8) : (rtrim l).length ≤ l.length := by unfold rtrim; rw [List.length_take]; omega

def strLen (v : Value) : Nat := match v with | .string s => s.size | _ => 0

theorem ret_str {a b : ByteArray} (h : a = b) : Ending.returned (.string a) = .returned (.string b) := by rw [h]

theorem ext_l {a b : ByteArray} (h : a.data.toList = b.data.toList) : a = b := by
  apply ByteArray.ext
  apply Array.ext'
  exact h

theorem extract_l (s : ByteArray) (a b : Nat) : (s.extract a b).data.toList = (s.data.toList.drop a).take (b - a) := by
  rw [ByteArray.data_extract, Array.toList_extract]

theorem extract_end (s : ByteArray) (a : Nat) : (s.extract a s.size).data.toList = s.data.toList.drop a := by
  rw [extract_l, List.take_of_length_le]
  have : s.data.toList.length = s.size := by simp
  rw [List.length_drop]
  omega

theorem empty_of {t : ByteArray} (h : t.size = 0) : t = ⟨#[]⟩ := ext_l (by
  have : t.data.toList.length = 0 := h
  exact List.length_eq_zero_iff.1 this)

theorem snoc_of {t : ByteArray} (h : 0 < t.size) : t.data.toList = (t.extract 0 (t.size - 1)).data.toList ++ [t[t.size - 1]] := by
  rw [extract_l, List.drop_zero, Nat.sub_zero]
  have hl : t.size - 1 < t.data.toList.length := by show t.size - 1 < t.size; omega
  have e : t[t.size - 1] = t.data.toList[t.size - 1] := rfl
  rw [e, ← List.take_succ_eq_append_getElem hl, List.take_of_length_le]
  show t.size ≤ _
  omega

set_option maxHeartbeats 1000000 in
theorem trim_any (s : ByteArray) (w : World) (hs : s.size ≤ maxLen) :
    Calls Tryz.prog 21 #[.string s] w fun e w' => e = .returned (.string ⟨⟨trim s.data.toList⟩⟩) ∧ w = w' := by
  have hs0 := hs
  unfold maxLen at hs
  have hle : lead s.data.toList ≤ s.size := by
    have := lead_le s.data.toList
    have h2 : s.data.toList.length = s.size := by simp
    omega
  go_enter Tryz.func21, Tryz.ntmps21
  go_wp2_with ((go_at_call 45; refine (span_any _ _ hs0).mono ?_; rintro e w' ⟨rfl, rfl⟩))
  go_loop [0] (fun v => ∃ t : ByteArray, t.size ≤ s.size ∧ rtrim t.data.toList = trim s.data.toList ∧ v = .string t) (fun v => strLen v)
  case atStart => exact ⟨_, by rw [ByteArray.size_extract]; omega, by rw [extract_end]; rfl, rfl⟩
  case round =>
    obtain ⟨t, ht, hr, rfl⟩ := hrel
    have HR := Lib.hid hr
    clear hr
    by_cases h0 : t.size = 0
    · have e1 := empty_of h0
      clear h0
      subst e1
      go_wp2
      go_ret
      exact ⟨ret_str (ext_l (by rw [← HR.out]; rfl)), rfl⟩
    · have hpos : 0 < t.size := by omega
      clear h0
      have hne : (!t.toList.isEmpty) = true := by
        rw [ByteArray.toList_eq]
        cases e : t.data.toList with
        | nil =>
          have h2 : t.data.toList.length = t.size := rfl
          rw [e] at h2
          simp at h2
          omega
        | cons _ _ => rfl
      have HS := Lib.hid (snoc_of hpos)
      have hlt : t.size - 1 < t.size := by omega
      cases hb : blkI (t[t.size - 1].toNat : Int) with
      | true =>
        have HX : Hid (rtrim (t.extract 0 (t.size - 1)).data.toList = trim s.data.toList) := Lib.hid (by
          rw [← HR.out, HS.out, rtrim_snoc, if_pos (show blk t[t.size - 1] = true from hb)])
        go_wp2_with ((go_at_call 22; refine (isBlank_any _ _).mono ?_; rintro e w' ⟨rfl, rfl⟩))
        go_round
        case rel => exact ⟨t.extract 0 (t.size - 1), by rw [ByteArray.size_extract]; omega, HX.out, rfl⟩
        case measure => simp [strLen, ByteArray.size_extract]; omega
      | false =>
        have HX : Hid (t.data.toList = trim s.data.toList) := Lib.hid (by
          rw [← HR.out]
          have := rtrim_snoc (t.extract 0 (t.size - 1)).data.toList t[t.size - 1]
          rw [← HS.out, if_neg (by show ¬ blk t[t.size - 1] = true; rw [show blk t[t.size - 1] = false from hb]; simp)] at this
          exact this.symm)
        go_wp2_with ((go_at_call 22; refine (isBlank_any _ _).mono ?_; rintro e w' ⟨rfl, rfl⟩))
        go_ret
        exact ⟨ret_str (ext_l HX.out), rfl⟩
end Go.Proofs.YtenlpijbhhfahaaGreatDoor
