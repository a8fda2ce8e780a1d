/- The document's Trim: the same as the program's. -/
import Derived.Test.YtenlpijbhhfahaaGreatDoorWk5
set_option linter.all false
namespace Go.Proofs.YtenlpijbhhfahaaGreatDoor
open Go Go.RowKit Go.IntWalk

def seg (l : List UInt8) (p m : Nat) : List UInt8 := (l.drop p).take (m - p)

theorem seg_snoc {l : List UInt8} {p m : Nat} (h : p ≤ m) (h' : m < l.length) : seg l p (m + 1) = seg l p m ++ [l[m]] := by
  unfold seg
  rw [show m + 1 - p = (m - p) + 1 from by omega]
  rw [List.take_add_one, List.getElem?_drop, List.getElem?_eq_getElem (by omega)]
  simp only [Option.toList]
  congr 2
  congr 1
  omega

theorem seg_all (l : List UInt8) (p : Nat) : seg l p l.length = l.drop p := by
  unfold seg
  rw [List.take_of_length_le]
  rw [List.length_drop]
  exact Nat.le_refl _

theorem seg_none (l : List UInt8) (p : Nat) : seg l p p = [] := by
  unfold seg
  rw [Nat.sub_self, List.take_zero]

theorem lead_all {l : List UInt8} {k : Nat} (h : k < lead l) (h' : k < l.length) : blk l[k] = true := by
  obtain ⟨c, hc, hb⟩ := lead_lt h
  rw [List.getElem?_eq_getElem h'] at hc
  simp only [Option.some.injEq] at hc
  rw [hc]; exact hb

theorem lead_stop {l : List UInt8} (h : lead l < l.length) : blk l[lead l] = false := by
  obtain ⟨c, hc, hb⟩ := lead_at h
  rw [List.getElem?_eq_getElem h] at hc
  simp only [Option.some.injEq] at hc
  rw [hc]; exact hb

set_option maxRecDepth 1000000 in
set_option maxHeartbeats 2000000 in
theorem rtrim_any (s : ByteArray) (w : World) (hs : s.size ≤ 2000) :
    Calls Tryz.prog 23 #[.string s] w fun e w' => e = .returned (.string ⟨⟨trim s.data.toList⟩⟩) ∧ Below w.heap.size w w' := by
  obtain ⟨p, hp⟩ : ∃ p, p = lead s.data.toList := ⟨_, rfl⟩
  have hps : p ≤ s.size := by rw [hp]; exact lead_le _
  have HP : Hid (p = lead s.data.toList) := hp
  have HST : Hid (rtrim (seg s.data.toList p s.size) = trim s.data.toList) := Lib.hid (by
    rw [show s.size = s.data.toList.length from rfl, seg_all, hp]; rfl)
  clear hp
  go_enter Tryz.func23, Tryz.ntmps23
  go_wp2
  go_loopw [3] (fun v wr => ∃ k : Nat, k ≤ p ∧ v = .int .i64 k ∧ Below w.heap.size w wr) (fun v _ => s.size - (intOf v).toNat)
  case atStart => exact ⟨0, Nat.zero_le _, rfl, Below.refl _ _⟩
  case round =>
    obtain ⟨k, hk, rfl, hbw⟩ := hrel
    have hsz := hbw.size
    by_cases hkl : k < p
    · have hks : k < s.size := by omega
      have hb : blk s[k] = true := lead_all (by rw [← HP.out]; exact hkl) hks
      go_wp2_with ((go_at_call 20; refine (is_any _ _).mono ?_; rintro e w' ⟨rfl, hb'⟩))
      go_roundw
      case rel => exact ⟨k + 1, by omega, by go_num, hbw.trans (hb'.mono hsz)⟩
      case measure => simp [intOf]; omega
    · obtain rfl : k = p := by omega
      clear hk hkl
      by_cases hks : k < s.size
      · have hb : blk s[k] = false := by
          have := lead_stop (l := s.data.toList) (by rw [← HP.out]; exact hks)
          simp only [← HP.out] at this
          exact this
        go_wp2_with ((go_at_call 20; refine (is_any _ _).mono ?_; rintro e w' ⟨rfl, hb'⟩))
        have hbx : Below w.heap.size w w' := hbw.trans (hb'.mono hsz)
        clear hbw hb'
        go_loopw [4] (fun v wr => ∃ m : Nat, k ≤ m ∧ m ≤ s.size ∧ v = .int .i64 m ∧ Hid (rtrim (seg s.data.toList k m) = trim s.data.toList) ∧ Below w.heap.size w wr) (fun v _ => (intOf v).toNat)
        case atStart => exact ⟨s.size, hps, Nat.le_refl _, rfl, HST, hbx⟩
        case round =>
          obtain ⟨m, hkm, hms, rfl, HR, hbw2⟩ := hrel
          have hsz2 := hbw2.size
          by_cases hlt : k < m
          · obtain ⟨m, rfl⟩ : ∃ m', m = m' + 1 := ⟨m - 1, by omega⟩
            have hidx : m < s.size := by omega
            have hkm' : (k : Int) < (m : Int) + 1 := by omega
            have hx1 : (k : Int) ≤ (m : Int) + 1 := by omega
            have hx2 : (m : Int) + 1 ≤ (s.size : Int) := by omega
            have hx3 : ((m : Int) + 1).toNat = m + 1 := by omega
            have HS : Hid (seg s.data.toList k (m + 1) = seg s.data.toList k m ++ [s[m]]) := Lib.hid (seg_snoc (by omega) hidx)
            cases hb2 : blk s[m] with
            | true =>
              have HX : Hid (rtrim (seg s.data.toList k m) = trim s.data.toList) := Lib.hid (by rw [← HR.out, HS.out, rtrim_snoc, if_pos hb2])
              go_wp2_with ((go_at_call 20; refine (is_any _ _).mono ?_; rintro e w2 ⟨rfl, hb3⟩))
              go_roundw
              case rel => exact ⟨m, by omega, by omega, by go_num, HX, hbw2.trans (hb3.mono hsz2)⟩
              case measure => show (m : Int).toNat < ((m + 1 : Nat) : Int).toNat; omega
            | false =>
              have HX : Hid (seg s.data.toList k (m + 1) = trim s.data.toList) := Lib.hid (by rw [← HR.out, HS.out, rtrim_snoc, if_neg (by rw [hb2]; simp)])
              go_wp2_with ((go_at_call 20; refine (is_any _ _).mono ?_; rintro e w2 ⟨rfl, hb3⟩))
              go_ret
              exact ⟨ret_str (ext_l (by rw [extract_l]; exact HX.out)), hbw2.trans (hb3.mono hsz2)⟩
          · obtain rfl : m = k := by omega
            have HX : Hid (([] : List UInt8) = trim s.data.toList) := Lib.hid (by rw [← HR.out, seg_none]; rfl)
            go_wp2
            go_ret
            exact ⟨ret_str (ext_l (by show ([] : List UInt8) = _; exact HX.out)), hbw2⟩
      · go_wp2
        have hbx : Below w.heap.size w wr := hbw
        clear hbw
        go_loopw [4] (fun v wr => ∃ m : Nat, k ≤ m ∧ m ≤ s.size ∧ v = .int .i64 m ∧ Hid (rtrim (seg s.data.toList k m) = trim s.data.toList) ∧ Below w.heap.size w wr) (fun v _ => (intOf v).toNat)
        case atStart => exact ⟨s.size, hps, Nat.le_refl _, rfl, HST, hbx⟩
        case round =>
          obtain ⟨m, hkm, hms, rfl, HR, hbw2⟩ := hrel
          have hsz2 := hbw2.size
          by_cases hlt : k < m
          · obtain ⟨m, rfl⟩ : ∃ m', m = m' + 1 := ⟨m - 1, by omega⟩
            have hidx : m < s.size := by omega
            have hkm' : (k : Int) < (m : Int) + 1 := by omega
            have hx1 : (k : Int) ≤ (m : Int) + 1 := by omega
            have hx2 : (m : Int) + 1 ≤ (s.size : Int) := by omega
            have hx3 : ((m : Int) + 1).toNat = m + 1 := by omega
            have HS : Hid (seg s.data.toList k (m + 1) = seg s.data.toList k m ++ [s[m]]) := Lib.hid (seg_snoc (by omega) hidx)
            cases hb2 : blk s[m] with
            | true =>
              have HX : Hid (rtrim (seg s.data.toList k m) = trim s.data.toList) := Lib.hid (by rw [← HR.out, HS.out, rtrim_snoc, if_pos hb2])
              go_wp2_with ((go_at_call 20; refine (is_any _ _).mono ?_; rintro e w2 ⟨rfl, hb3⟩))
              go_roundw
              case rel => exact ⟨m, by omega, by omega, by go_num, HX, hbw2.trans (hb3.mono hsz2)⟩
              case measure => show (m : Int).toNat < ((m + 1 : Nat) : Int).toNat; omega
            | false =>
              have HX : Hid (seg s.data.toList k (m + 1) = trim s.data.toList) := Lib.hid (by rw [← HR.out, HS.out, rtrim_snoc, if_neg (by rw [hb2]; simp)])
              go_wp2_with ((go_at_call 20; refine (is_any _ _).mono ?_; rintro e w2 ⟨rfl, hb3⟩))
              go_ret
              exact ⟨ret_str (ext_l (by rw [extract_l]; exact HX.out)), hbw2.trans (hb3.mono hsz2)⟩
          · obtain rfl : m = k := by omega
            have HX : Hid (([] : List UInt8) = trim s.data.toList) := Lib.hid (by rw [← HR.out, seg_none]; rfl)
            go_wp2
            go_ret
            exact ⟨ret_str (ext_l (by show ([] : List UInt8) = _; exact HX.out)), hbw2⟩
end Go.Proofs.YtenlpijbhhfahaaGreatDoor
