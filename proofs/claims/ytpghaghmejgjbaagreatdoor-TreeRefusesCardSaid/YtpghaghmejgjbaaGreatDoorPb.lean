/- Paths: what may be a name, by the program and by the document. -/
import Derived.Test.YtpghaghmejgjbaaGreatDoorK
import Derived.Test.YtpghaghmejgjbaaGreatDoorPa
import Derived.Lib.ConvBytes
namespace Go.Proofs.YtpghaghmejgjbaaGreatDoor.Path
open Go.RowKit
set_option linter.unusedSimpArgs false

theorem okB_iff (b : UInt8) : okB b = true ↔ (97 ≤ (b.toNat : Int) ∧ (b.toNat : Int) ≤ 122) ∨ (48 ≤ (b.toNat : Int) ∧ (b.toNat : Int) ≤ 57) ∨ (b.toNat : Int) = 46 ∨ (b.toNat : Int) = 95 ∨ (b.toNat : Int) = 45 := by
  simp only [okB, Bool.or_eq_true, Bool.and_eq_true, decide_eq_true_eq, beq_iff_eq, UInt8.le_iff_toNat_le, ← UInt8.toNat_inj]
  simp only [UInt8.reduceToNat, or_assoc]
  omega
/-- Which way the switch goes. -/
theorem ok_ways {b : UInt8} {n : Int} (hn : n = (b.toNat : Int)) (h : okB b = true) : (97 ≤ n ∧ n ≤ 122) ∨ (¬ 97 ≤ n ∧ 48 ≤ n ∧ n ≤ 57) ∨ n = 46 ∨ n = 95 ∨ n = 45 := by
  have := (okB_iff b).1 h
  omega
theorem no_ways {b : UInt8} {n : Int} (hn : n = (b.toNat : Int)) (h : okB b = false) : (97 ≤ n ∧ ¬ n < 97 ∧ 122 < n ∧ ¬ n ≤ 122 ∧ 48 ≤ n ∧ ¬ n < 48 ∧ 57 < n ∧ ¬ n ≤ 57 ∧ n ≠ 46 ∧ n ≠ 95 ∧ n ≠ 45) ∨ (¬ 97 ≤ n ∧ n < 97 ∧ n ≤ 122 ∧ ¬ 122 < n ∧ 48 ≤ n ∧ ¬ n < 48 ∧ 57 < n ∧ ¬ n ≤ 57 ∧ n ≠ 46 ∧ n ≠ 95 ∧ n ≠ 45) ∨ (¬ 97 ≤ n ∧ n < 97 ∧ n ≤ 122 ∧ ¬ 122 < n ∧ ¬ 48 ≤ n ∧ n < 48 ∧ n ≤ 57 ∧ ¬ 57 < n ∧ n ≠ 46 ∧ n ≠ 95 ∧ n ≠ 45) := by
  have : ¬ _ := fun hh => by have := (okB_iff b).2 hh; rw [h] at this; cases this
  omega

structure Mid (s : ByteArray) : Prop where
  e : s.toList.isEmpty = false
  z : ¬ (s.size : Int) < 1
  l : ¬ 20 < (s.size : Int)
  d : (s.toList == [46]) = false
  dd : (s.toList == [46, 46]) = false
theorem tl_bs (s : ByteArray) : s.toList = bs s := ByteArray.toList_eq s
theorem mid_name {s : ByteArray} (h : Mid s) : nameL (bs s) = (bs s).all okB := by
  have h1 := h.z; have h2 := h.l
  have h3 := h.d; have h4 := h.dd
  rw [tl_bs] at h3 h4
  have hl := bs_len s
  rw [nameL, decide_eq_true (by omega), decide_eq_true (by omega)]
  simp only [bne, h3, h4]
  rfl
theorem name_bad {s : ByteArray} (h : ¬ Mid s) : nameL (bs s) = false ∧ ((s.toList.isEmpty = true ∧ (s.size : Int) < 1) ∨ (s.toList.isEmpty = false ∧ ¬ (s.size : Int) < 1 ∧ 20 < (s.size : Int)) ∨ (s.toList.isEmpty = false ∧ ¬ (s.size : Int) < 1 ∧ ¬ 20 < (s.size : Int) ∧ (s.toList == [46]) = true) ∨ (s.toList.isEmpty = false ∧ ¬ (s.size : Int) < 1 ∧ ¬ 20 < (s.size : Int) ∧ (s.toList == [46]) = false ∧ (s.toList == [46, 46]) = true)) := by
  have hl := bs_len s
  rw [tl_bs]
  by_cases h0 : bs s = []
  · rw [h0] at hl
    exact ⟨by rw [h0]; rfl, .inl ⟨by rw [h0]; rfl, by simp at hl; omega⟩⟩
  · have h0' : (bs s).isEmpty = false := by simpa using h0
    have hz : ¬ (s.size : Int) < 1 := by
      have := List.length_pos_iff.2 h0; omega
    by_cases h20 : 20 < (s.size : Int)
    · exact ⟨by rw [nameL, decide_eq_false (by omega : ¬ (bs s).length ≤ 20)]; simp, .inr (.inl ⟨h0', hz, h20⟩)⟩
    · by_cases hd : bs s = [46]
      · exact ⟨by rw [hd]; rfl, .inr (.inr (.inl ⟨h0', hz, h20, by rw [hd]; rfl⟩))⟩
      · have hd' : (bs s == [46]) = false := by simpa using hd
        by_cases hdd : bs s = [46, 46]
        · exact ⟨by rw [hdd]; rfl, .inr (.inr (.inr ⟨h0', hz, h20, hd', by rw [hdd]; rfl⟩))⟩
        · exact absurd ⟨by rw [tl_bs]; exact h0', hz, h20, by rw [tl_bs]; exact hd', by rw [tl_bs]; simpa using hdd⟩ h

theorem bs_get {s : ByteArray} {k : Nat} (h : k < s.size) : (bs s)[k]? = some s[k] := by
  rw [List.getElem?_eq_some_iff]
  exact ⟨by rw [bs_len]; exact h, rfl⟩
theorem all_next {l : Bs} {k : Nat} {b : UInt8} (hb : l[k]? = some b) (h : (l.take k).all okB = true) (hk : okB b = true) : (l.take (k + 1)).all okB = true := by
  rw [List.take_add_one, hb, List.all_append, h]; simp [hk]
theorem all_stop {l : Bs} {k : Nat} {b : UInt8} (hb : l[k]? = some b) (hk : okB b = false) : l.all okB = false := by
  rw [List.all_eq_false]
  exact ⟨b, List.mem_of_getElem? hb, by simp [hk]⟩

set_option maxHeartbeats 2000000 in
theorem rname_calls (w : World) (s : ByteArray) :
    Calls Tryz.prog 73 #[.string s] w fun e w' => e = .returned (.bool (nameL (bs s))) ∧ w' = w := by
  by_cases hm : Mid s
  · rw [mid_name hm]
    obtain ⟨h0, h1, h2, h3, h4⟩ := hm
    have hs := bs_len s
    go_enter Tryz.func73, Tryz.ntmps73
    go_wp2_with (fail)
    go_loopw [3] (fun vk wr => ∃ k : Nat, vk = .int .i64 k ∧ k ≤ s.size ∧ ((bs s).take k).all okB = true ∧ wr = w) (fun vk _ => s.size - (intOf vk).toNat)
    case atStart => exact ⟨0, rfl, Nat.zero_le _, rfl, rfl⟩
    case round =>
      obtain ⟨k, rfl, hk, hall, rfl⟩ := hrel
      have Hall := Lib.hid hall; clear hall
      by_cases hlt : k < s.size
      · have hb := bs_get hlt
        have Hb := Lib.hid hb; clear hb
        cases hk' : okB s[k]
        · have hno := all_stop Hb.out hk'
          have Hno := Lib.hid hno; clear hno
          rcases no_ways rfl hk' with ⟨m1, m2, m3, m4, m5, m6, m7, m8, m9, m10, m11⟩ | ⟨m1, m2, m3, m4, m5, m6, m7, m8, m9, m10, m11⟩ | ⟨m1, m2, m3, m4, m5, m6, m7, m8, m9, m10, m11⟩ <;>
          · clear hk'
            have q1 : ((s[k].toNat : Int) != 46) = true := bne_iff_ne.2 m9
            have q2 : ((s[k].toNat : Int) != 95) = true := bne_iff_ne.2 m10
            have q3 : ((s[k].toNat : Int) != 45) = true := bne_iff_ne.2 m11
            go_wp2_with (fail)
            go_ret
            exact ⟨ret_bool Hno.out.symm, rfl⟩
        · have hnx := all_next Hb.out Hall.out hk'
          have Hnx := Lib.hid hnx; clear hnx
          rcases ok_ways rfl hk' with ⟨m1, m2⟩ | ⟨m1, m2, m3⟩ | m1 | m1 | m1 <;>
          · clear hk'
            go_wp2_with (fail)
            go_roundw
            case rel => exact ⟨k + 1, by go_num, by omega, Hnx.out, by trivial⟩
            case measure => simp [intOf]; omega
      · obtain rfl : k = s.size := by omega
        have h := Hall.out
        rw [List.take_of_length_le (by omega)] at h
        have H := Lib.hid h; clear h
        go_wp2_with (fail)
        go_ret
        exact ⟨ret_bool H.out.symm, rfl⟩
  · obtain ⟨hn, hc⟩ := name_bad hm
    rw [hn]
    clear hn hm
    rcases hc with ⟨h0, h1⟩ | ⟨h0, h1, h2⟩ | ⟨h0, h1, h2, h3⟩ | ⟨h0, h1, h2, h3, h4⟩ <;>
    · go_enter Tryz.func73, Tryz.ntmps73
      go_wp2_with (fail)
      go_ret
      exact ⟨rfl, rfl⟩

set_option maxHeartbeats 4000000 in
theorem name_calls (w : World) (s : ByteArray) :
    Calls Tryz.prog 24 #[.string s] w fun e w' => e = .returned (.bool (nameL (bs s))) ∧ Below w.heap.size w w' := by
  by_cases hm : Mid s
  · rw [mid_name hm]
    obtain ⟨h0, h1, h2, h3, h4⟩ := hm
    have hs := bs_len s
    have hcv := fun W => Lib.run_convert_string_bytes (P := Tryz.prog) W 9 78 5 s Tryz.underlying9 Tryz.underlying78 Tryz.underlying5
    have hcell := fun k (hk : k < s.size) => Lib.bytesWorld_cell w 5 s k hk
    have hbel : Below w.heap.size w (Lib.bytesWorld w 5 s) := ⟨rfl, rfl, rfl, by rw [Lib.bytesWorld_size]; omega, fun k hk => Lib.bytesWorld_at_old w _ s k hk⟩
    have Hcell := Lib.hid hcell; clear hcell
    go_enter Tryz.func24, Tryz.ntmps24
    go_wp2_with (fail)
    clear hcv
    generalize Lib.bytesWorld w 5 s = w1 at *
    go_loopw [23] (fun vk wr => ∃ k : Nat, vk = .int .i64 k ∧ k ≤ s.size ∧ ((bs s).take k).all okB = true ∧ wr = w1) (fun vk _ => s.size - (intOf vk).toNat)
    case atStart => exact ⟨0, rfl, Nat.zero_le _, rfl, rfl⟩
    case round =>
      obtain ⟨k, rfl, hk, hall, rfl⟩ := hrel
      have Hall := Lib.hid hall; clear hall
      by_cases hlt : k < s.size
      · have hb := bs_get hlt
        have hc := Hcell.out k hlt
        rw [show s.data.toList.getD k 0 = s[k] from by rw [List.getD_eq_getElem?_getD]; exact congrArg (fun o => Option.getD o 0) hb] at hc
        have Hb := Lib.hid hb; clear hb
        cases hk' : okB s[k]
        · have hno := all_stop Hb.out hk'
          have Hno := Lib.hid hno; clear hno
          rcases no_ways rfl hk' with ⟨m1, m2, m3, m4, m5, m6, m7, m8, m9, m10, m11⟩ | ⟨m1, m2, m3, m4, m5, m6, m7, m8, m9, m10, m11⟩ | ⟨m1, m2, m3, m4, m5, m6, m7, m8, m9, m10, m11⟩ <;>
          · clear hk'
            have q1 : ((s[k].toNat : Int) == 46) = false := beq_false_of_ne m9
            have q2 : ((s[k].toNat : Int) == 95) = false := beq_false_of_ne m10
            have q3 : ((s[k].toNat : Int) == 45) = false := beq_false_of_ne m11
            go_wp2_with (fail)
            go_ret
            exact ⟨ret_bool Hno.out.symm, hbel⟩
        · have hnx := all_next Hb.out Hall.out hk'
          have Hnx := Lib.hid hnx; clear hnx
          rcases ok_ways rfl hk' with ⟨m1, m2⟩ | ⟨m1, m2, m3⟩ | m1 | m1 | m1 <;>
          · clear hk'
            go_wp2_with (fail)
            go_roundw
            case rel => exact ⟨k + 1, by go_num, by omega, Hnx.out, by trivial⟩
            case measure => simp [intOf]; omega
      · obtain rfl : k = s.size := by omega
        have h := Hall.out
        rw [List.take_of_length_le (by omega)] at h
        have H := Lib.hid h; clear h
        go_wp2_with (fail)
        go_ret
        exact ⟨ret_bool H.out.symm, hbel⟩
  · obtain ⟨hn, hc⟩ := name_bad hm
    rw [hn]
    clear hn hm
    rcases hc with ⟨h0, h1⟩ | ⟨h0, h1, h2⟩ | ⟨h0, h1, h2, h3⟩ | ⟨h0, h1, h2, h3, h4⟩ <;>
    · go_enter Tryz.func24, Tryz.ntmps24
      go_wp2_with (fail)
      go_ret
      exact ⟨rfl, Below.refl _ _⟩
end Go.Proofs.YtpghaghmejgjbaaGreatDoor.Path
