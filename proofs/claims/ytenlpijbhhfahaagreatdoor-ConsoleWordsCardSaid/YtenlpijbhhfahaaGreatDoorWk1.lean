/- Blanks, counted and cut off. -/
import Derived.Test.YtenlpijbhhfahaaGreatDoorProg
import Derived.WalkKit
import Derived.LoopTactic
import Derived.Lib.Hide
set_option linter.all false
namespace Go.Proofs.YtenlpijbhhfahaaGreatDoor
open Go Go.RowKit Go.IntWalk

def blkI (c : Int) : Bool := c == 32 || c == 9 || c == 10 || c == 13

set_option maxHeartbeats 400000 in
theorem isBlank_any (c : Int) (w : World) : Calls Tryz.prog 22 #[.int .u8 c] w fun e w' => e = .returned (.bool (blkI c)) ∧ w = w' := by
  unfold blkI
  go_enter Tryz.func22, Tryz.ntmps22
  go_wp2
  all_goals
    go_ret
    exact ⟨by simp [*], rfl⟩

def blk (c : UInt8) : Bool := blkI c.toNat

/-- How many blanks stand at the front. -/
def lead : List UInt8 → Nat
  | [] => 0
  | c :: l => if blk c then lead l + 1 else 0

theorem lead_le : ∀ l : List UInt8, lead l ≤ l.length
  | [] => Nat.le_refl _
  | c :: l => by
    unfold lead
    have := lead_le l
    split <;> simp <;> omega

theorem lead_lt {l : List UInt8} {k : Nat} (h : k < lead l) : ∃ c, l[k]? = some c ∧ blk c = true := by
  induction l generalizing k with
  | nil => simp [lead] at h
  | cons c l ih =>
    unfold lead at h
    split at h
    · rename_i hb
      cases k with
      | zero => exact ⟨c, rfl, hb⟩
      | succ k =>
        obtain ⟨d, hd, hb'⟩ := ih (k := k) (by omega)
        exact ⟨d, by simpa using hd, hb'⟩
    · omega

theorem lead_at {l : List UInt8} (h : lead l < l.length) : ∃ c, l[lead l]? = some c ∧ blk c = false := by
  induction l with
  | nil => simp at h
  | cons c l ih =>
    unfold lead at h ⊢
    split
    · rename_i hb
      rw [if_pos hb] at h
      obtain ⟨d, hd, hb'⟩ := ih (by simpa using h)
      exact ⟨d, by simpa using hd, hb'⟩
    · rename_i hb
      exact ⟨c, rfl, by simpa using hb⟩

theorem get_of {s : ByteArray} {k : Nat} (h : k < s.size) : s.data.toList[k]? = some s[k] := by
  have h' : k < s.data.toList.length := by simpa using h
  rw [List.getElem?_eq_getElem h']
  rfl

theorem ret_int {k : IntKind} {a b : Int} (h : a = b) : Ending.returned (.int k a) = .returned (.int k b) := by rw [h]

set_option maxHeartbeats 1000000 in
theorem span_any (s : ByteArray) (w : World) (hs : s.size ≤ maxLen) :
    Calls Tryz.prog 45 #[.string s, .func (.func 22) #[] #[]] w fun e w' => e = .returned (.int .i64 (lead s.data.toList : Nat)) ∧ w = w' := by
  unfold maxLen at hs
  have hle : lead s.data.toList ≤ s.size := by
    have := lead_le s.data.toList
    have h2 : s.data.toList.length = s.size := by simp
    omega
  go_enter Tryz.func45, Tryz.ntmps45
  go_wp2
  go_loop [5] (fun n => ∃ k : Nat, k ≤ lead s.data.toList ∧ n = .int .i64 k) (fun n => s.size - (intOf n).toNat)
  case atStart => exact ⟨0, Nat.zero_le _, rfl⟩
  case round =>
    obtain ⟨k, hk, rfl⟩ := hrel
    by_cases hlt : k < s.size
    · by_cases hkl : k < lead s.data.toList
      · have hb : blkI (s[k].toNat : Int) = true := by
          obtain ⟨c, hc, hb⟩ := lead_lt hkl
          rw [get_of hlt] at hc
          simp only [Option.some.injEq] at hc
          rw [hc]; exact hb
        go_wp2_with ((go_at_call 22; refine (isBlank_any _ _).mono ?_; rintro e w' ⟨rfl, rfl⟩))
        go_round
        case rel => exact ⟨k + 1, by omega, by go_num⟩
        case measure => simp [intOf]; omega
      · have hk' : k = lead s.data.toList := by omega
        have hb : blkI (s[k].toNat : Int) = false := by
          obtain ⟨c, hc, hb⟩ := lead_at (l := s.data.toList) (by rw [← hk']; simpa using hlt)
          rw [← hk', get_of hlt] at hc
          simp only [Option.some.injEq] at hc
          rw [hc]; exact hb
        clear hk'
        go_wp2_with ((go_at_call 22; refine (isBlank_any _ _).mono ?_; rintro e w' ⟨rfl, rfl⟩))
        go_ret
        exact ⟨ret_int (by omega), rfl⟩
    · go_wp2
      go_ret
      exact ⟨ret_int (by omega), rfl⟩
end Go.Proofs.YtenlpijbhhfahaaGreatDoor
