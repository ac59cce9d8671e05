/- Paths: the document's Join. -/
import Derived.Test.YtpghaghmejgjbaaGreatDoorPm
namespace Go.Proofs.YtpghaghmejgjbaaGreatDoor.Path
open Go.RowKit
set_option linter.unusedSimpArgs false
set_option linter.unusedVariables false

theorem mk_append (a b : Bs) : mk a ++ mk b = mk (a ++ b) := by
  apply bs_inj
  have : bs (mk a ++ mk b) = bs (mk a) ++ bs (mk b) := by simp [bs]
  rw [this, bs_mk, bs_mk, bs_mk]
theorem mk_step (a : Bs) (x : ByteArray) : mk a ++ (⟨#[47]⟩ : ByteArray) ++ x = mk (a ++ 47 :: bs x) := by
  have e1 : (⟨#[47]⟩ : ByteArray) = mk [47] := rfl
  conv => lhs; rw [e1, ← mk_bs x]
  rw [mk_append, mk_append, List.append_assoc]; rfl
theorem flatP_len (q : List Bs) (h : ∀ x ∈ q, x.length ≤ 20) : (flatP q).length ≤ q.length * 21 := by
  induction q with
  | nil => simp [flatP]
  | cons x r ih =>
    have h1 := h x (by simp)
    have h2 := ih fun n hn => h n (List.mem_cons_of_mem _ hn)
    rw [flatP_cons, List.length_append, List.length_cons, List.length_cons]
    omega
theorem flatP_next {q : List Bs} {k : Nat} {x : Bs} (hx : q[k]? = some x) : flatP (q.take (k + 1)) = flatP (q.take k) ++ 47 :: x := by
  rw [List.take_add_one, hx, flatP_append]; simp [flatP]

set_option maxHeartbeats 4000000 in
theorem rjoin_calls (w : World) (v : Value) (ns : List ByteArray) (h : Rd w 1 encS v ns) (hn : ns.length ≤ 8796093022208) :
    Calls Tryz.prog 68 #[v] w (JoinPost w (joinE (ns.map bs)) (joinS (ns.map bs))) := by
  obtain ⟨ao, cap, rfl, _, _, hcell⟩ := rd_cellsS h
  have Hcell := Lib.hid hcell; clear hcell h
  have hJ0 := join_ways (ns.map bs)
  have hbad := fun (e : joinE (ns.map bs) ≠ 0) => join_bad e
  have hgood : joinE (ns.map bs) = 0 → joinS (ns.map bs) = joinP (ns.map bs) := fun e => if_pos e
  generalize joinE (ns.map bs) = E at *
  generalize joinS (ns.map bs) = S at *
  have HJ0 := Lib.hid hJ0; have Hbad := Lib.hid hbad; have Hgood := Lib.hid hgood; clear hJ0 hbad hgood
  go_enter Tryz.func68, Tryz.ntmps68
  go_wp2_with (fail)
  go_loopw [4] (fun vk wr => ∃ k : Nat, vk = .int .i64 k ∧ k ≤ ns.length ∧ ((ns.map bs).take k).all nameL = true ∧ wr = w) (fun vk _ => ns.length - (intOf vk).toNat)
  case atStart => exact ⟨0, rfl, Nat.zero_le _, rfl, rfl⟩
  case round =>
    obtain ⟨k, rfl, hk, hall, hw⟩ := hrel
    obtain rfl : w = wr := hw.symm
    have Hall := Lib.hid hall; clear hall
    by_cases hlt : k < ns.length
    · obtain ⟨x, hx⟩ : ∃ x, ns[k]? = some x := ⟨ns[k], by simp [hlt]⟩
      have hxb : (ns.map bs)[k]? = some (bs x) := by rw [List.getElem?_map, hx]; rfl
      obtain ⟨b, off, rfl, _, c0⟩ := Hcell.out w (Below.refl _ _) k x hx
      have hrn := rname_calls w x
      have Hxb := Lib.hid hxb; clear hx hxb
      cases hnm : nameL (bs x)
      · rw [hnm] at hrn
        have hE : E = 1 := by
          rcases HJ0.out with ⟨_, e⟩ | ⟨e, _⟩ | ⟨e, _⟩ | ⟨e, _⟩
          · exact e
          all_goals
            have := all_no Hxb.out hnm
            rw [e] at this; cases this
        have hS : S = [] := Hbad.out (by rw [hE]; decide)
        have HE := Lib.hid hE; have HS := Lib.hid hS; clear hE hS hnm
        go_wp2_with (fail)
        refine hrn.mono ?_
        rintro e w1 ⟨rfl, rfl⟩
        go_wp2_with (fail)
        go_ret2
        rw [HE.out, HS.out]
        exact ⟨rfl, Below.refl _ _⟩
      · rw [hnm] at hrn
        have hnx := mk_all Hxb.out Hall.out hnm
        have Hnx := Lib.hid hnx; clear hnx hnm
        go_wp2_with (fail)
        refine hrn.mono ?_
        rintro e w1 ⟨rfl, rfl⟩
        go_wp2_with (fail)
        go_roundw
        case rel => exact ⟨k + 1, by go_num, by omega, Hnx.out, by trivial⟩
        case measure => simp [intOf]; omega
    · obtain rfl : k = ns.length := by omega
      have hall : (ns.map bs).all nameL = true := by
        have := Hall.out
        rwa [List.take_of_length_le (by rw [List.length_map]; omega)] at this
      have h20 : ∀ y ∈ ns.map bs, y.length ≤ 20 := fun y hy => name_len (List.all_eq_true.1 hall y hy)
      have hJ := HJ0.out
      rw [hall, List.length_map] at hJ
      have hflat := flat_join (q := ns.map bs)
      have HJ := Lib.hid hJ; clear hJ
      have H20 := Lib.hid h20; have Hflat := Lib.hid hflat; clear h20 hflat hall
      by_cases h6 : 6 < (ns.length : Int)
      · have hE : E = 4 := by
          rcases HJ.out with ⟨e, _⟩ | ⟨_, _, e⟩ | ⟨_, e, _⟩ | ⟨_, e, _⟩
          · cases e
          · exact e
          · (exfalso; omega)
          · (exfalso; omega)
        have hS : S = [] := Hbad.out (by rw [hE]; decide)
        have HE := Lib.hid hE; have HS := Lib.hid hS; clear hE hS
        go_wp2_with (fail)
        go_ret2
        rw [HE.out, HS.out]
        exact ⟨rfl, Below.refl _ _⟩
      · by_cases h0 : ns.length = 0
        · have hns : ns = [] := List.eq_nil_of_length_eq_zero h0
          have hE : E = 0 := by
            rcases HJ.out with ⟨e, _⟩ | ⟨_, e, _⟩ | ⟨_, _, e, _⟩ | ⟨_, _, _, e⟩
            · cases e
            · (exfalso; omega)
            · rw [hns] at e; exact absurd e (by decide)
            · exact e
          have hS : S = [47] := by rw [Hgood.out hE, hns]; rfl
          have HE := Lib.hid hE; have HS := Lib.hid hS; clear hE hS hns
          have g0 : ((ns.length : Int) == 0) = true := by simp [h0]
          have H0 := Lib.hid h0; clear h0
          go_wp2_with (fail)
          go_ret2
          rw [HE.out, HS.out]
          exact ⟨rfl, Below.refl _ _⟩
        · have g0 : ((ns.length : Int) == 0) = false := beq_false_of_ne (by omega)
          have hne : ns.map bs ≠ [] := by
            intro e
            have := congrArg List.length e
            rw [List.length_map] at this
            exact h0 this
          have Hne := Lib.hid hne; clear hne
          go_wp2_with (fail)
          go_loopw [6, 7] (fun vo vk wr => ∃ k : Nat, vk = .int .i64 k ∧ k ≤ ns.length ∧ vo = .string (mk (flatP ((ns.map bs).take k))) ∧ wr = w) (fun _ vk _ => ns.length - (intOf vk).toNat)
          case atStart => exact ⟨0, rfl, Nat.zero_le _, rfl, rfl⟩
          case round =>
            obtain ⟨k, rfl, hk, rfl, hw⟩ := hrel
            obtain rfl : w = wr := hw.symm
            have hle := flatP_len ((ns.map bs).take k) (fun y hy => H20.out y (List.mem_of_mem_take hy))
            rw [List.length_take, List.length_map] at hle
            have hsz := mk_size (flatP ((ns.map bs).take k))
            by_cases hlt : k < ns.length
            · obtain ⟨x, hx⟩ : ∃ x, ns[k]? = some x := ⟨ns[k], by simp [hlt]⟩
              have hxb : (ns.map bs)[k]? = some (bs x) := by rw [List.getElem?_map, hx]; rfl
              have hxl := H20.out (bs x) (List.mem_of_getElem? hxb)
              rw [bs_len] at hxl
              obtain ⟨b, off, rfl, _, c0⟩ := Hcell.out w (Below.refl _ _) k x hx
              have hnx := flatP_next hxb
              have Hnx := Lib.hid hnx; clear hx hxb hnx
              generalize flatP ((ns.map bs).take k) = J at *
              have hstep := mk_step J x
              have Hstep := Lib.hid hstep; clear hstep
              have b1 : ¬ 9223372036854775807 < (mk J).size + 1 := by omega
              have b2 : ¬ 9223372036854775807 < (mk J).size + 1 + x.size := by omega
              go_wp2_with (fail)
              go_roundw
              case rel => exact ⟨k + 1, by go_num, by omega, by rw [Hnx.out, ← Hstep.out], by trivial⟩
              case measure => simp [intOf]; omega
            · obtain rfl : k = ns.length := by omega
              have htk : (ns.map bs).take ns.length = ns.map bs := List.take_of_length_le (by rw [List.length_map]; omega)
              rw [htk] at hle hsz ⊢
              have hfj := Hflat.out Hne.out
              rw [hfj] at hle hsz ⊢
              clear hfj htk hle
              by_cases h120 : 120 < ((joinP (ns.map bs)).length : Int)
              · have hE : E = 4 := by
                  rcases HJ.out with ⟨e, _⟩ | ⟨_, e, _⟩ | ⟨_, _, _, e⟩ | ⟨_, _, e, _⟩
                  · cases e
                  · (exfalso; omega)
                  · exact e
                  · (exfalso; omega)
                have hS : S = [] := Hbad.out (by rw [hE]; decide)
                have HE := Lib.hid hE; have HS := Lib.hid hS; clear hE hS
                generalize joinP (ns.map bs) = J at *
                have g3 : 120 < ((mk J).size : Int) := by omega
                go_wp2_with (fail)
                go_ret2
                rw [HE.out, HS.out]
                exact ⟨rfl, Below.refl _ _⟩
              · have hE : E = 0 := by
                  rcases HJ.out with ⟨e, _⟩ | ⟨_, e, _⟩ | ⟨_, _, e, _⟩ | ⟨_, _, _, e⟩
                  · cases e
                  · (exfalso; omega)
                  · (exfalso; omega)
                  · exact e
                have hS : S = joinP (ns.map bs) := Hgood.out hE
                generalize joinP (ns.map bs) = J at *
                have HE := Lib.hid hE; have HS := Lib.hid hS; clear hE hS
                have g3 : ¬ 120 < ((mk J).size : Int) := by omega
                go_wp2_with (fail)
                go_ret2
                rw [HE.out, HS.out]
                exact ⟨rfl, Below.refl _ _⟩
end Go.Proofs.YtpghaghmejgjbaaGreatDoor.Path
