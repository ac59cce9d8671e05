/- Paths: path.Join. -/
import Derived.Test.YtpghaghmejgjbaaGreatDoorPd
namespace Go.Proofs.YtpghaghmejgjbaaGreatDoor.Path
open Go.RowKit
set_option linter.unusedSimpArgs false

theorem inter_len (ns : List Bs) (h : ∀ n ∈ ns, n.length ≤ 20) : ([(47 : UInt8)].intercalate ns).length ≤ ns.length * 21 := by
  induction ns with
  | nil => simp [inter_nil]
  | cons x r ih =>
    cases r with
    | nil => rw [inter_one]; have := h x (by simp); simp; omega
    | cons y r =>
      rw [inter_cons, List.length_append, List.length_cons]
      have h1 := h x (by simp)
      have h2 := ih (fun n hn => h n (List.mem_cons_of_mem _ hn))
      simp only [List.length_cons] at h2 ⊢
      omega
theorem any_bad' (ns : List ByteArray) : ns.any badS = !((ns.map bs).all nameL) := by
  rw [← any_bad, List.map_map]
  congr 1
  conv => lhs; rw [← List.map_id ns]
  exact List.map_congr_left fun x _ => (mk_bs x).symm

theorem sjoin_calls (w : World) (v : Value) (ns : List ByteArray) (h : Rd w 1 encS v ns) (hn : ns.length ≤ 6000000000000) (hok : ∀ n ∈ ns, (bs n).length ≤ 20) :
    Calls Tryz.prog 97 #[v, .string ⟨#[47]⟩] w fun e w' => e = .returned (.string (mk ([(47 : UInt8)].intercalate (ns.map bs)))) ∧ Below w.heap.size w w' := by
  obtain ⟨ao, cap, rfl, hcap, _, hcell⟩ := rd_cellsS h
  by_cases h0 : ns = []
  · subst h0
    refine (Tryz.strings_Join_none ao cap ⟨#[47]⟩ w).mono ?_
    rintro e w' ⟨rfl, rfl⟩
    exact ⟨rfl, Below.refl _ _⟩
  · obtain ⟨x, t, rfl⟩ := List.exists_cons_of_ne_nil h0
    obtain ⟨b, off, rfl, hlt, _⟩ := hcell w (Below.refl _ _) 0 x rfl
    have hj : Lib.join ((x :: t).map (·.data.toList)) [47] = [(47 : UInt8)].intercalate ((x :: t).map bs) := rfl
    have hlen := inter_len ((x :: t).map bs) (fun n hn => by
      obtain ⟨y, hy, rfl⟩ := List.mem_map.1 hn
      exact hok y hy)
    rw [List.length_map] at hlen
    refine (Tryz.strings_Join b off cap (x :: t) ⟨#[47]⟩ w (fun j y hy => ?_) hlt (by omega) hcap (by rw [hj]; omega)).mono ?_
    · obtain ⟨b', off', e, _, hc⟩ := hcell w (Below.refl _ _) j y hy
      cases e
      exact hc
    · rintro e w' ⟨rfl, hb⟩
      exact ⟨rfl, hb⟩

theorem slash_cat (J : Bs) : (⟨#[47]⟩ : ByteArray) ++ mk J = mk (47 :: J) := by
  apply bs_inj
  rw [bs_mk]
  have : bs (⟨#[47]⟩ ++ mk J) = bs ⟨#[47]⟩ ++ bs (mk J) := by simp [bs]
  rw [this, bs_mk]
  rfl
/-- Which way names go. -/
theorem join_ways (ns : List Bs) :
    (ns.all nameL = false ∧ joinE ns = 1) ∨ (ns.all nameL = true ∧ 6 < (ns.length : Int) ∧ joinE ns = 4) ∨ (ns.all nameL = true ∧ ¬ 6 < (ns.length : Int) ∧ 120 < ((joinP ns).length : Int) ∧ joinE ns = 4) ∨
    (ns.all nameL = true ∧ ¬ 6 < (ns.length : Int) ∧ ¬ 120 < ((joinP ns).length : Int) ∧ joinE ns = 0) := by
  cases h : ns.all nameL
  · exact .inl ⟨rfl, by rw [joinE, if_neg (by rw [h]; simp)]⟩
  · by_cases h6 : 6 < ns.length
    · exact .inr (.inl ⟨rfl, by omega, by rw [joinE, if_pos h, if_pos (.inl h6)]⟩)
    · by_cases h120 : 120 < (joinP ns).length
      · exact .inr (.inr (.inl ⟨rfl, by omega, by omega, by rw [joinE, if_pos h, if_pos (.inr h120)]⟩))
      · exact .inr (.inr (.inr ⟨rfl, by omega, by omega, by rw [joinE, if_pos h, if_neg (by omega)]⟩))
theorem join_bad {ns : List Bs} (h : joinE ns ≠ 0) : joinS ns = [] := if_neg h
def JoinPost (w : World) (k : Int) (q : Bs) (e : Ending) (w' : World) : Prop :=
  e = .returned (.tuple #[.string (mk q), .int .i64 k]) ∧ Below w.heap.size w w'

set_option maxHeartbeats 2000000 in
theorem join_calls (w : World) (v : Value) (ns : List ByteArray) (h : Rd w 1 encS v ns) (hn : ns.length ≤ 6000000000000) :
    Calls Tryz.prog 77 #[v] w (JoinPost w (joinE (ns.map bs)) (joinS (ns.map bs))) := by
  have hany := any_bad' ns
  rcases join_ways (ns.map bs) with ⟨ha, hE⟩ | ⟨ha, h6, hE⟩ | ⟨ha, h6, h120, hE⟩ | ⟨ha, h6, h120, hE⟩
  · rw [hE, join_bad (by rw [hE]; decide)]
    have hh := fun W (hW : Below w.heap.size w W) => has2_calls W v ns (h.below hW (Nat.le_refl _)) (by omega)
    rw [hany, ha] at hh
    clear hany ha hE
    have Hh := Lib.hid hh; clear hh
    obtain ⟨ao, cap, rfl, _, _, _⟩ := rd_cellsS h
    clear h
    go_enter Tryz.func77, Tryz.ntmps77
    go_wp2_with (fail)
    refine (Hh.out _ (Below.refl _ _)).mono ?_
    rintro e w1 ⟨rfl, hb1⟩
    go_wp2_with (fail)
    go_ret2
    exact ⟨rfl, hb1⟩
  all_goals
    have hall : ∀ n ∈ ns, (bs n).length ≤ 20 := fun n hn => name_len (List.all_eq_true.1 ha _ (List.mem_map_of_mem hn))
    have hh := has2_calls w v ns h (by omega)
    have hs := fun W (hW : Below w.heap.size w W) => sjoin_calls W v ns (h.below hW (Nat.le_refl _)) (by omega) hall
    rw [hany, ha] at hh
    rw [List.length_map] at h6
    have hJ : joinP (ns.map bs) = 47 :: [(47 : UInt8)].intercalate (ns.map bs) := rfl
    have hJl := inter_len (ns.map bs) (fun n hn => by
      obtain ⟨y, hy, rfl⟩ := List.mem_map.1 hn
      exact hall y hy)
    rw [List.length_map] at hJl
    rw [hE]
    try rw [join_bad (by rw [hE]; decide)]
    try rw [show joinS (ns.map bs) = joinP (ns.map bs) from if_pos hE]
    try rw [hJ]
    have hP : ((joinP (ns.map bs)).length : Int) = 1 + (([(47 : UInt8)].intercalate (ns.map bs)).length : Int) := by rw [hJ, List.length_cons]; omega
    try rw [hP] at h120
    clear hP
    generalize [(47 : UInt8)].intercalate (ns.map bs) = J at *
    clear hany ha hE hall hJ
    have hsz := mk_size J
    have hcat := slash_cat J
    have Hcat := Lib.hid hcat; clear hcat
    have Hs := Lib.hid hs; clear hs
    obtain ⟨ao, cap, rfl, _, _, _⟩ := rd_cellsS h
    clear h
    have hbig : ¬ 9223372036854775807 < 1 + (mk J).size := by omega
    go_enter Tryz.func77, Tryz.ntmps77
    go_wp2_with (fail)
    refine hh.mono ?_
    rintro e w1 ⟨rfl, hb1⟩
    go_wp2_with (fail)
    refine (Hs.out _ hb1).mono ?_
    rintro e w2 ⟨rfl, hb2⟩
  · go_wp2_with (fail)
    go_ret2
    exact ⟨rfl, hb1.trans (hb2.mono hb1.size)⟩
  · have h120' : 120 < 1 + ((mk J).size : Int) := by omega
    go_wp2_with (fail)
    go_ret2
    exact ⟨rfl, hb1.trans (hb2.mono hb1.size)⟩
  · have h120' : ¬ 120 < 1 + ((mk J).size : Int) := by omega
    go_wp2_with (fail)
    go_ret2
    refine ⟨?_, hb1.trans (hb2.mono hb1.size)⟩
    rw [← Hcat.out]
    rfl
end Go.Proofs.YtpghaghmejgjbaaGreatDoor.Path
