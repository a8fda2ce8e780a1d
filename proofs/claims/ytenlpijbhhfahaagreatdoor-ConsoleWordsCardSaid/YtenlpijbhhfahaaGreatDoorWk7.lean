/- The document's Rest: what Split gives as the rest. -/
import Derived.Test.YtenlpijbhhfahaaGreatDoorWk6
set_option linter.all false
namespace Go.Proofs.YtenlpijbhhfahaaGreatDoor
open Go Go.RowKit Go.IntWalk

theorem wl_word {l : List UInt8} {k : Nat} (h : k < wl l) (h' : k < l.length) : blk l[k] = false := by
  obtain ⟨c, hc, hb⟩ := wl_lt h
  rw [List.getElem?_eq_getElem h'] at hc
  simp only [Option.some.injEq] at hc
  rw [hc]; exact hb

theorem wl_stop {l : List UInt8} (h : wl l < l.length) : blk l[wl l] = true := by
  obtain ⟨c, hc, hb⟩ := wl_at h
  rw [List.getElem?_eq_getElem h] at hc
  simp only [Option.some.injEq] at hc
  rw [hc]; exact hb

set_option maxRecDepth 1000000 in
set_option maxHeartbeats 2000000 in
theorem rest_any (s : ByteArray) (w : World) (hs : s.size ≤ 2000) :
    Calls Tryz.prog 10 #[.string s] w fun e w' => e = .returned (.string ⟨⟨restOf s.data.toList⟩⟩) ∧ Below w.heap.size w w' := by
  obtain ⟨t, ht⟩ : ∃ t : ByteArray, t = ⟨⟨trim s.data.toList⟩⟩ := ⟨_, rfl⟩
  have HT : Hid (t.data.toList = trim s.data.toList) := Lib.hid (by rw [ht])
  have HC : Hid (∀ w, Calls Tryz.prog 23 #[.string s] w fun e w' => e = .returned (.string t) ∧ Below w.heap.size w w') := Lib.hid (fun w => by rw [ht]; exact rtrim_any s w hs)
  clear ht
  have hts : t.size ≤ 2000 := by
    have h1 : t.size = t.data.toList.length := rfl
    have h2 : s.size = s.data.toList.length := rfl
    have := trim_len s.data.toList
    rw [← HT.out] at this
    omega
  obtain ⟨p, hp⟩ : ∃ p, p = wl t.data.toList := ⟨_, rfl⟩
  have hps : p ≤ t.size := by rw [hp]; exact wl_le t.data.toList
  have HP : Hid (p = wl t.data.toList) := hp
  clear hp
  go_enter Tryz.func10, Tryz.ntmps10
  go_wp2_with ((go_at_call 23; refine (HC.out _).mono ?_; rintro e w1 ⟨rfl, hb1⟩))
  have hsz1 := hb1.size
  go_loopw [3] (fun v wr => ∃ k : Nat, k ≤ p ∧ v = .int .i64 k ∧ Below w.heap.size w wr) (fun v _ => t.size - (intOf v).toNat)
  case atStart => exact ⟨0, Nat.zero_le _, rfl, hb1⟩
  case round =>
    obtain ⟨k, hk, rfl, hbw⟩ := hrel
    have hsz := hbw.size
    by_cases hkl : k < p
    · have hks : k < t.size := by omega
      have hb : blk t[k] = false := wl_word (by rw [← HP.out]; exact hkl) hks
      go_wp2_with ((go_at_call 20; refine (is_any _ _).mono ?_; rintro e w' ⟨rfl, hb'⟩))
      go_roundw
      case rel => exact ⟨k + 1, by omega, by go_num, hbw.trans (hb'.mono hsz)⟩
      case measure => simp [intOf]; omega
    · obtain rfl : k = p := by omega
      clear hk hkl
      by_cases hks : k < t.size
      · have hb : blk t[k] = true := by
          have := wl_stop (l := t.data.toList) (by rw [← HP.out]; exact hks)
          simp only [← HP.out] at this
          exact this
        have hki : (k : Int) ≤ (t.size : Int) := by omega
        have hki0 : (0 : Int) ≤ (k : Int) := by omega
        have hkn : (k : Int).toNat = k := by omega
        have HD : Hid (∀ w, Calls Tryz.prog 23 #[.string (t.extract k t.size)] w fun e w' => e = .returned (.string ⟨⟨restOf s.data.toList⟩⟩) ∧ Below w.heap.size w w') := Lib.hid (fun w => by
          refine (rtrim_any (t.extract k t.size) w (by rw [ByteArray.size_extract]; omega)).mono ?_
          rintro e w' ⟨rfl, hb⟩
          refine ⟨ret_str (ext_l ?_), hb⟩
          show trim (t.extract k t.size).data.toList = restOf s.data.toList
          rw [extract_end, HP.out, HT.out]; rfl)
        go_wp2_with (first
          | (go_at_call 20; refine (is_any _ _).mono ?_; rintro e w2 ⟨rfl, hb2⟩)
          | (go_at_call 23; refine (HD.out _).mono ?_; rintro e w3 ⟨rfl, hb3⟩))
        go_ret
        have h2 := hbw.trans (hb2.mono hsz)
        exact ⟨rfl, h2.trans (hb3.mono h2.size)⟩
      · have HX : Hid (([] : List UInt8) = restOf s.data.toList) := Lib.hid (by
          unfold restOf
          rw [← HT.out, ← HP.out, List.drop_of_length_le (by show t.size ≤ _; omega)]
          rfl)
        go_wp2
        go_ret
        exact ⟨ret_str (ext_l (by show ([] : List UInt8) = _; exact HX.out)), hbw⟩
end Go.Proofs.YtenlpijbhhfahaaGreatDoor
