/- Paths: the document's Split. -/
import Derived.Test.YtpghaghmejgjbaaGreatDoorPl
namespace Go.Proofs.YtpghaghmejgjbaaGreatDoor.Path
open Go.RowKit
set_option linter.unusedSimpArgs false
set_option linter.unusedVariables false

theorem size_zero {p : ByteArray} (h : p.toList.isEmpty = true) : p.size = 0 := by
  rw [tl_bs] at h
  have := bs_len p
  rw [List.isEmpty_iff.1 h] at this
  exact this.symm
/-- The easy ways. -/
theorem rsplit_easy (w : World) (p : ByteArray) (h : (120 < (p.size : Int) ∧ splitE (bs p) = 4) ∨
    (¬ 120 < (p.size : Int) ∧ (p.toList == [47]) = true ∧ splitE (bs p) = 0 ∧ splitL (bs p) = []) ∨
    (¬ 120 < (p.size : Int) ∧ (p.toList == [47]) = false ∧ p.toList.isEmpty = true ∧ splitE (bs p) = 1)) :
    Calls Tryz.prog 42 #[.string p] w (SplPost w (splitE (bs p)) ((splitL (bs p)).map mk)) := by
  rcases h with ⟨h1, hE⟩ | ⟨h1, h2, hE, hL⟩ | ⟨h1, h2, h3, hE⟩
  · rw [hE, split_bad (by rw [hE]; decide)]
    clear hE
    go_enter Tryz.func42, Tryz.ntmps42
    go_wp2_with (fail)
    go_ret2
    exact ⟨_, rfl, OwnS.nil _ _, Below.refl _ _⟩
  · rw [hE, hL]
    clear hE hL
    go_enter Tryz.func42, Tryz.ntmps42
    go_wp2_with (fail)
    go_ret2
    exact ⟨_, rfl, OwnS.nil _ _, Below.refl _ _⟩
  · rw [hE, split_bad (by rw [hE]; decide)]
    have hz := size_zero h3
    clear hE h3
    have hz' : ¬ ((0 : Int) < (p.size : Int)) := by omega
    go_enter Tryz.func42, Tryz.ntmps42
    go_wp2_with (fail)
    go_loopw [4, 5] (fun vo va wr => vo = .slice none 0 0 ∧ va = .int .i64 0 ∧ wr = w) (fun _ _ _ => 0)
    case atStart => exact ⟨rfl, rfl, rfl⟩
    case round =>
      obtain ⟨rfl, rfl, hw⟩ := hrel
      obtain rfl : w = wr := hw.symm
      go_wp2_with (fail)
      go_ret2
      exact ⟨_, rfl, OwnS.nil _ _, Below.refl _ _⟩

set_option maxHeartbeats 2000000 in
/-- No slash ahead. -/
theorem rsplit_none (w : World) (p : ByteArray) (h1 : ¬ 120 < (p.size : Int)) (h2 : (p.toList == [47]) = false) (h3 : splitE (bs p) = 1) (h0 : 0 < p.size) (h4 : ((p[0].toNat : Int) != 47) = true) :
    Calls Tryz.prog 42 #[.string p] w (SplPost w (splitE (bs p)) ((splitL (bs p)).map mk)) := by
  rw [h3, split_bad (by rw [h3]; decide)]
  clear h3
  have h0' : (0 : Int) < (p.size : Int) := by omega
  go_enter Tryz.func42, Tryz.ntmps42
  go_wp2_with (fail)
  go_loopw [4, 5] (fun vo va wr => vo = .slice none 0 0 ∧ va = .int .i64 0 ∧ wr = w) (fun _ _ _ => 0)
  case atStart => exact ⟨rfl, rfl, rfl⟩
  case round =>
    obtain ⟨rfl, rfl, hw⟩ := hrel
    obtain rfl : w = wr := hw.symm
    go_wp2_with (fail)
    go_loopw [6] (fun ve wr => ∃ m : Nat, ve = .int .i64 m ∧ 1 ≤ m ∧ m ≤ p.size ∧ wr = w) (fun ve _ => p.size - (intOf ve).toNat)
    case atStart => exact ⟨1, rfl, Nat.le_refl _, h0, rfl⟩
    case round =>
      obtain ⟨m, rfl, hm1, hm, hw⟩ := hrel
      obtain rfl : w = wr := hw.symm
      by_cases hlt : m < p.size
      · have hlt' : (m : Int) < (p.size : Int) := by omega
        have ha1 : (1 : Int) ≤ (m : Int) := by omega
        have ha2 : (m : Int) ≤ (p.size : Int) := by omega
        cases hb : ((p[m].toNat : Int) != 47)
        · go_wp2_with (fail)
          refine (rname_calls w (p.extract 1 m)).mono ?_
          rintro e w1 ⟨rfl, rfl⟩
          go_wp2_with (fail)
          go_ret2
          exact ⟨_, rfl, OwnS.nil _ _, Below.refl _ _⟩
        · go_wp2_with (fail)
          go_roundw
          case rel => exact ⟨m + 1, by go_num, by omega, by omega, by trivial⟩
          case measure => simp [intOf]; omega
      · obtain rfl : m = p.size := by omega
        have ha1 : (1 : Int) ≤ (p.size : Int) := by omega
        go_wp2_with (fail)
        refine (rname_calls w (p.extract 1 p.size)).mono ?_
        rintro e w1 ⟨rfl, rfl⟩
        go_wp2_with (fail)
        go_ret2
        exact ⟨_, rfl, OwnS.nil _ _, Below.refl _ _⟩

theorem mk_all {q : List Bs} {k : Nat} {x : Bs} (hx : q[k]? = some x) (h : (q.take k).all nameL = true) (hn : nameL x = true) : (q.take (k + 1)).all nameL = true := by
  rw [List.take_add_one, hx, List.all_append, h]; simp [hn]
theorem mk_snoc {q : List Bs} {k : Nat} {x : Bs} (hx : q[k]? = some x) : (q.take (k + 1)).map mk = (q.take k).map mk ++ [mk x] := by
  rw [List.take_add_one, hx, List.map_append]; rfl
theorem all_no {q : List Bs} {k : Nat} {x : Bs} (hx : q[k]? = some x) (hn : nameL x = false) : q.all nameL = false := by
  rw [List.all_eq_false]
  exact ⟨x, List.mem_of_getElem? hx, by simp [hn]⟩

set_option maxRecDepth 4000 in
set_option maxHeartbeats 4000000 in
/-- The way through the pieces. -/
theorem rsplit_main (w : World) (p : ByteArray) (q : List Bs) (h1 : ¬ 120 < (p.size : Int)) (h2 : (p.toList == [47]) = false) (hs : bs p = flatP q) (hno : ∀ x ∈ q, (47 : UInt8) ∉ x) (hq : q ≠ [])
    (hE : splitE (bs p) = (if q.all nameL = true then (if 6 < q.length then 4 else 0) else 1)) (hL : splitL (bs p) = if splitE (bs p) = 0 then q else []) :
    Calls Tryz.prog 42 #[.string p] w (SplPost w (splitE (bs p)) ((splitL (bs p)).map mk)) := by
  have hl := bs_len p
  have hpc := fun k x (hx : q[k]? = some x) => piece hs hno hx
  have hend := off_end hs
  have hlt0 := fun k (hk : k < q.length) => off_lt hs hno hk
  have hql : q.length ≤ p.size := by
    have key : ∀ k, k ≤ q.length → k ≤ offP q k := by
      intro k
      induction k with
      | zero => intro _; exact Nat.zero_le _
      | succ k ih =>
        intro hk
        have := (hpc k q[k] (by simp [show k < q.length by omega])).next
        have := ih (by omega)
        omega
    have := key q.length (Nat.le_refl _)
    omega
  have hq0 : 0 < q.length := List.length_pos_iff.2 hq
  generalize hEE : splitE (bs p) = E at *
  generalize splitL (bs p) = L at *
  clear hs hno hEE hq
  have Hpc := Lib.hid hpc; have Hlt := Lib.hid hlt0; have HE := Lib.hid hE; have HL := Lib.hid hL; clear hpc hlt0 hE hL
  go_enter Tryz.func42, Tryz.ntmps42
  go_wp2_with (fail)
  go_loopw [4, 5] (fun vo va wr => ∃ k : Nat, k ≤ q.length ∧ va = .int .i64 (offP q k) ∧ OwnS w wr vo ((q.take k).map mk) ∧ (q.take k).all nameL = true ∧ Below w.heap.size w wr) (fun _ va _ => p.size - (intOf va).toNat)
  case atStart => exact ⟨0, Nat.zero_le _, rfl, OwnS.nil _ _, rfl, Below.refl _ _⟩
  case round =>
    obtain ⟨k, hk, rfl, hO, hall, hb⟩ := hrel
    generalize wr = W0 at *
    have Hall := Lib.hid hall; have HO := Lib.hid hO; clear hall hO
    by_cases hkq : k < q.length
    · obtain ⟨x, hx⟩ : ∃ x, q[k]? = some x := ⟨q[k], by simp [hkq]⟩
      have pc := Hpc.out k x hx
      have hof := Hlt.out k hkq
      have hpl := pc.len
      generalize hoff : offP q k = f at *
      have hpn := pc.next
      rw [hoff] at hpn
      have Hx := Lib.hid hx; have Pc := Lib.hid pc; have Hoff := Lib.hid hoff; have Hpn := Lib.hid hpn; clear hx pc hoff hpn
      have f1 : IntKind.i64.wrap ((f : Int) + 1) = (f : Int) + 1 := by rw [IntKind.wrap_i64]; omega
      have f2 : (f : Int) < (p.size : Int) := by omega
      have f3 : f < p.size := by omega
      go_wp2_with (fail)
      go_loopw [6] (fun ve wr => ∃ j : Nat, ve = .int .i64 ((f + 1 + j : Nat) : Int) ∧ j ≤ x.length ∧ wr = W0) (fun ve _ => p.size - (intOf ve).toNat)
      case atStart => exact ⟨0, by go_num, Nat.zero_le _, rfl⟩
      case round =>
        obtain ⟨j, rfl, hj, hw⟩ := hrel
        obtain rfl : W0 = wr := hw.symm
        by_cases hjx : j < x.length
        · have hb47 : ∃ h : f + 1 + j < p.size, ((p[f + 1 + j].toNat : Int) != 47) = true := by
            obtain ⟨b, hb1, hb2⟩ := Pc.out.at_ j hjx
            rw [Hoff.out] at hb1
            have hlt : f + 1 + j < p.size := by omega
            rw [bs_get hlt] at hb1
            simp only [Option.some.injEq] at hb1
            refine ⟨hlt, bne_iff_ne.2 fun e => hb2 ?_⟩
            rw [← hb1, ← UInt8.toNat_inj]
            have : p[f + 1 + j].toNat = 47 := by omega
            rw [this]; rfl
          obtain ⟨hlt, hne⟩ := hb47
          generalize hm : f + 1 + j = m at *
          have hlt' : (m : Int) < (p.size : Int) := by omega
          go_wp2_with (fail)
          go_roundw
          case rel => exact ⟨j + 1, by rw [← Nat.add_assoc, hm]; go_num, by omega, by trivial⟩
          case measure => simp [intOf]; omega
        · obtain rfl : j = x.length := by omega
          have hp47 : ((p[f].toNat : Int) != 47) = false := by
            have hb1 := Pc.out.slash
            rw [Hoff.out, bs_get f3] at hb1
            simp only [Option.some.injEq] at hb1
            rw [hb1]; rfl
          have hex : p.extract (f + 1) (f + 1 + x.length) = mk x := by
            have := extract_piece Pc.out
            rwa [Hoff.out] at this
          have hstop : f + 1 + x.length = p.size ∨ ∃ h : f + 1 + x.length < p.size, ((p[f + 1 + x.length].toNat : Int) != 47) = false := by
            have hst := Pc.out.stop
            rw [Hoff.out] at hst
            rcases hst with h | h
            · left; omega
            · right
              have hlt : f + 1 + x.length < p.size := by
                have := (List.getElem?_eq_some_iff.1 h).1
                omega
              rw [bs_get hlt] at h
              simp only [Option.some.injEq] at h
              exact ⟨hlt, by rw [h]; rfl⟩
          have hle6 : (q.take k).length ≤ q.length := List.length_take_le' _ _
          generalize hm : f + 1 + x.length = m at *
          have f4 : (f : Int) + 1 ≤ (m : Int) := by omega
          have f5 : (m : Int) ≤ (p.size : Int) := by omega
          have f6 : ((f : Int) + 1).toNat = f + 1 := by omega
          have f7 : (0 : Int) ≤ (f : Int) + 1 := by omega
          have Hex := Lib.hid hex; have Hm := Lib.hid hm; clear hex hm
          rcases hstop with rfl | ⟨hlt, hst⟩
          focus
            have f8 : ¬ ((p.size : Int) < (p.size : Int)) := by omega
            go_wp2_with (fail)
          rotate_left
          focus
            have f8 : (m : Int) < (p.size : Int) := by omega
            go_wp2_with (fail)
          all_goals
            rw [Hex.out]
            have hrn := rname_calls W0 (mk x)
            rw [bs_mk] at hrn
            cases hn : nameL x
            · rw [hn] at hrn
              have hE1 := HE.out
              rw [if_neg (by rw [all_no Hx.out hn]; simp)] at hE1
              have HE1 := Lib.hid hE1; clear hE1 hn
              refine hrn.mono ?_
              rintro e w1 ⟨rfl, rfl⟩
              go_wp2_with (fail)
              go_ret2
              have hL1 := HL.out
              rw [HE1.out, if_neg (by decide)] at hL1
              rw [HE1.out, hL1]
              exact ⟨_, rfl, OwnS.nil _ _, hb⟩
            · rw [hn] at hrn
              have hall1 := mk_all Hx.out Hall.out hn
              have Hall1 := Lib.hid hall1; clear hn hall1
              refine hrn.mono ?_
              rintro e w1 ⟨rfl, rfl⟩
              have hwl : ((q.take k).map mk).length = k := by rw [List.length_map, List.length_take]; omega
              have hown := HO.out.own
              rw [hwl] at hown
              have HW := Lib.hid hown; clear hown
              have hsz := hb.size
              go_wp2_with (at_builtin; (with_reducible refine etS.wpList1 (HW.out.alloc _) (heap_alloc_new _ _) rfl (by simp [Value.oneCell']) (by omega) (by unfold maxLen; omega) rfl (.tmp 45) (.tmp 51) rfl rfl rfl ?_); intro g1 cap1 w2 hown1 hgrow hat hlt1)
              go_roundw
              case rel =>
                refine ⟨k + 1, by omega, by rw [Hpn.out], ⟨?_, fun g hg => ?_⟩, Hall1.out, ((hb.alloc hsz _).grown hgrow (by simp; omega) (fun q hq => HO.out.new q hq))⟩
                · rw [mk_snoc Hx.out, List.length_append, hwl, flatS_snoc, ← Hex.out]
                  exact hown1
                · simp only [Value.ownBlock, Option.some.injEq] at hg
                  subst hg
                  rcases hat with h | h
                  · exact HO.out.new _ h
                  · simp at h; omega
              case measure => simp [intOf]; omega
    · obtain rfl : k = q.length := by omega
      rw [hend]
      have hO := HO.out
      rw [List.take_length] at hO
      obtain ⟨a4, c4, rfl, _⟩ := own_slice hO.own
      rw [List.length_map] at *
      have hall := Hall.out
      rw [List.take_length] at hall
      have hE1 := HE.out
      rw [if_pos hall] at hE1
      have HO4 := Lib.hid hO; clear hO hall
      have g1 : ¬ ((p.size : Int) < (p.size : Int)) := by omega
      have g2 : ((q.length : Int) == 0) = false := beq_false_of_ne (by omega)
      rw [hl]
      by_cases h6 : 6 < q.length
      · rw [if_pos h6] at hE1
        have HE1 := Lib.hid hE1; clear hE1
        have g3 : 6 < (q.length : Int) := by omega
        go_wp2_with (fail)
        go_ret2
        have hL1 := HL.out
        rw [HE1.out, if_neg (by decide)] at hL1
        rw [HE1.out, hL1]
        exact ⟨_, rfl, OwnS.nil _ _, hb⟩
      · rw [if_neg h6] at hE1
        have HE1 := Lib.hid hE1; clear hE1
        have g3 : ¬ 6 < (q.length : Int) := by omega
        go_wp2_with (fail)
        go_ret2
        have hL1 := HL.out
        rw [HE1.out, if_pos rfl] at hL1
        rw [HE1.out, hL1]
        exact ⟨_, rfl, HO4.out, hb⟩

theorem rsplit_calls (w : World) (p : ByteArray) : Calls Tryz.prog 42 #[.string p] w (SplPost w (splitE (bs p)) ((splitL (bs p)).map mk)) := by
  rcases split_ways p with h | h | h | ⟨h1, h2, h3, hE, h0, h4⟩ | ⟨h1, h2, h3, ⟨h0, h4⟩, hE, hL⟩
  · exact rsplit_easy w p (.inl h)
  · exact rsplit_easy w p (.inr (.inl h))
  · exact rsplit_easy w p (.inr (.inr h))
  · exact rsplit_none w p h1 h2 hE h0 h4
  · have hb := bs_get h0
    have hne : p[0] = 47 := by
      have : (p[0].toNat : Int) = 47 := by simpa using h4
      rw [← UInt8.toNat_inj]
      have : p[0].toNat = 47 := by omega
      rw [this]; rfl
    have hs := path_flat (bs p) (by rw [List.head?_eq_getElem?, hb, hne])
    rw [tail_bs] at hs
    exact rsplit_main w p _ h1 h2 hs (cut_no _) (cut_ne _) hE hL
end Go.Proofs.YtpghaghmejgjbaaGreatDoor.Path
