/- The first word, and the rest. -/
import Derived.Test.YtenlpijbhhfahaaGreatDoorWk2
import Derived.Deep.QuietTactic
import Derived.BigQuiet
set_option linter.all false
namespace Go.Proofs.YtenlpijbhhfahaaGreatDoor
open Go Go.RowKit Go.IntWalk

/-- How many bytes stand ahead of the first blank. -/
def wl : List UInt8 → Nat
  | [] => 0
  | c :: l => if blk c then 0 else wl l + 1

theorem wl_le : ∀ l : List UInt8, wl l ≤ l.length
  | [] => Nat.le_refl _
  | c :: l => by
    unfold wl
    have := wl_le l
    split <;> simp <;> omega

theorem wl_lt {l : List UInt8} {k : Nat} (h : k < wl l) : ∃ c, l[k]? = some c ∧ blk c = false := by
  induction l generalizing k with
  | nil => simp [wl] at h
  | cons c l ih =>
    unfold wl at h
    split at h
    · omega
    · rename_i hb
      cases k with
      | zero => exact ⟨c, rfl, by simpa using hb⟩
      | succ k =>
        obtain ⟨d, hd, hb'⟩ := ih (k := k) (by omega)
        exact ⟨d, by simpa using hd, hb'⟩

theorem wl_at {l : List UInt8} (h : wl l < l.length) : ∃ c, l[wl l]? = some c ∧ blk c = true := by
  induction l with
  | nil => simp at h
  | cons c l ih =>
    unfold wl at h ⊢
    split
    · rename_i hb
      exact ⟨c, rfl, hb⟩
    · rename_i hb
      rw [if_neg hb] at h
      obtain ⟨d, hd, hb'⟩ := ih (by simpa using h)
      exact ⟨d, by simpa using hd, hb'⟩

theorem trim_nil : trim [] = [] := rfl

def wordOf (l : List UInt8) : List UInt8 := (trim l).take (wl (trim l))
def restOf (l : List UInt8) : List UInt8 := trim ((trim l).drop (wl (trim l)))

theorem trim_len (l : List UInt8) : (trim l).length ≤ l.length := by
  unfold trim
  have := rtrim_len (l.drop (lead l))
  rw [List.length_drop] at this
  omega

theorem ret_two {a b c d : ByteArray} (h : a = b) (h' : c = d) : Ending.returned (.tuple #[.string a, .string c]) = .returned (.tuple #[.string b, .string d]) := by rw [h, h']

set_option maxHeartbeats 1000000 in
theorem split_any (s : ByteArray) (w : World) (hs : s.size ≤ maxLen) :
    Calls Tryz.prog 9 #[.string s] w fun e w' => e = .returned (.tuple #[.string ⟨⟨wordOf s.data.toList⟩⟩, .string ⟨⟨restOf s.data.toList⟩⟩]) ∧ ∃ n, w' = w.drewN n := by
  obtain ⟨t, ht⟩ : ∃ t : ByteArray, t = ⟨⟨trim s.data.toList⟩⟩ := ⟨_, rfl⟩
  have HT : Hid (t.data.toList = trim s.data.toList) := Lib.hid (by rw [ht])
  have HC : Hid (∀ w, Calls Tryz.prog 21 #[.string s] w fun e w' => e = .returned (.string t) ∧ w = w') := Lib.hid (fun w => by rw [ht]; exact trim_any s w hs)
  clear ht
  have hts : t.size ≤ maxLen := by
    have h1 : t.size = t.data.toList.length := rfl
    have h2 : s.size = s.data.toList.length := rfl
    have := trim_len s.data.toList
    rw [← HT.out] at this
    omega
  have hts' := hts
  unfold maxLen at hts
  have hw : wl t.data.toList ≤ t.size := wl_le t.data.toList
  go_enter Tryz.func9, Tryz.ntmps9
  go_wp2_with ((go_at_call 21; refine (HC.out _).mono ?_; rintro e w' ⟨rfl, rfl⟩))
  go_loop [9] (fun i => ∃ k : Nat, k ≤ wl t.data.toList ∧ i = .int .i64 k) (fun i => t.size - (intOf i).toNat)
  case atStart => exact ⟨0, Nat.zero_le _, rfl⟩
  case round =>
    obtain ⟨k, hk, rfl⟩ := hrel
    by_cases hlt : k < t.size
    · by_cases hkl : k < wl t.data.toList
      · have hb : blkI (t[k].toNat : Int) = false := by
          obtain ⟨c, hc, hb⟩ := wl_lt hkl
          rw [get_of hlt] at hc
          simp only [Option.some.injEq] at hc
          rw [hc]; exact hb
        go_wp2_with ((go_at_call 22; refine (isBlank_any _ _).mono ?_; rintro e w' ⟨rfl, rfl⟩))
        go_round
        case rel => exact ⟨k + 1, by omega, by go_num⟩
        case measure => simp [intOf]; omega
      · have hk' : k = wl t.data.toList := by omega
        have hb : blkI (t[k].toNat : Int) = true := by
          obtain ⟨c, hc, hb⟩ := wl_at (l := t.data.toList) (by rw [← hk']; exact hlt)
          rw [← hk', get_of hlt] at hc
          simp only [Option.some.injEq] at hc
          rw [hc]; exact hb
        have HK := Lib.hid hk'
        clear hk'
        have hki : (k : Int) ≤ (t.size : Int) := by omega
        have hki0 : (0 : Int) ≤ (k : Int) := by omega
        have hkn : (k : Int).toNat = k := by omega
        have hx : t.size ≤ maxLen := hts'
        have HD : Hid (∀ w, Calls Tryz.prog 21 #[.string (t.extract k t.size)] w fun e w' => e = .returned (.string ⟨⟨restOf s.data.toList⟩⟩) ∧ w' = w) := Lib.hid (fun w => by
          refine (trim_any (t.extract k t.size) w (by rw [ByteArray.size_extract]; omega)).mono ?_
          rintro e w' ⟨rfl, rfl⟩
          refine ⟨ret_str (ext_l ?_), rfl⟩
          show trim (t.extract k t.size).data.toList = restOf s.data.toList
          rw [extract_end, HT.out, HK.out, HT.out]; rfl)
        have HE : Hid (t.extract 0 k = ⟨⟨wordOf s.data.toList⟩⟩) := Lib.hid (ext_l (by
          rw [extract_l, List.drop_zero, HT.out, HK.out, HT.out]; rfl))
        go_wp2_with ((go_at_call 22; refine (isBlank_any _ _).mono ?_; rintro e w' ⟨rfl, rfl⟩))
        go_quiet ((go_at_call 21; exact Calls.quiet_of_same (HD.out _)))
        go_wp2
        go_ret2
        exact ⟨ret_two HE.out rfl, _, rfl⟩
    · have HK : Hid (k = wl t.data.toList) := Lib.hid (by omega)
      have HE : Hid (t = ⟨⟨wordOf s.data.toList⟩⟩) := Lib.hid (ext_l (by
        show t.data.toList = wordOf s.data.toList
        unfold wordOf
        rw [← HT.out, List.take_of_length_le]
        have h2 : t.data.toList.length = t.size := rfl
        omega))
      have HR : Hid (restOf s.data.toList = []) := Lib.hid (by
        unfold restOf
        rw [← HT.out, List.drop_of_length_le]
        · rfl
        have h2 : t.data.toList.length = t.size := rfl
        omega)
      go_wp2
      go_ret2
      exact ⟨ret_two HE.out (by rw [HR.out]), 0, rfl⟩
end Go.Proofs.YtenlpijbhhfahaaGreatDoor
