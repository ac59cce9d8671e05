/- QuotaCounts: the walk of the law. -/
import Derived.Test.YtbgeiebfjlgcmaaDoorQl
import Derived.Test.YtbgeiebfjlgcmaaDoorTp
import Derived.Test.YtbgeiebfjlgcmaaDoorQh
namespace Go.Proofs.YtbgeiebfjlgcmaaDoor.Quota
open Go.RowKit
open Path (Bs bs mk bs_mk mk_bs tl_bs splitE splitL parD parE parN underL MaxC OwnS encS rd_cellsS below_drewN)
open Tree
set_option linter.unusedSimpArgs false
set_option linter.unusedVariables false

def kidsL (l : List Nd) (x : Nd) : List Nd := if x.dir = true then childL l (bs x.path) else []
def sumK (l : List Nd) (x : Nd) (j : Nat) : Nat := 1 + (((kidsL l x).take j).map fun c => cntN l (bs c.path)).sum
theorem kids_list {l : List Nd} (h : rightT l = true) {x : Nd} (hx : x ∈ l) : listN l (bs x.path) = (kidsL l x).map nameOf := by
  obtain ⟨i, hi, rfl⟩ := List.mem_iff_getElem.1 hx
  have hf := find_at (right_rises h) (i := i) (x := l[i]) (by simp [hi])
  have hE : listE l (bs l[i].path) = if l[i].dir = true then 0 else 7 := by
    rw [listE, if_pos ⟨h, right_splits h hx⟩, hf]
  rw [listN, hE, kidsL]
  cases hd : l[i].dir <;> simp
theorem kids_end {l : List Nd} (h : rightT l = true) {x : Nd} (hx : x ∈ l) : sumK l x (kidsL l x).length = cntN l (bs x.path) := by
  rw [sumK, List.take_length, kidsL]
  cases hd : x.dir
  · rw [cnt_file h hx hd]; rfl
  · rw [cnt_self h hx]; rfl
theorem kids_next {l : List Nd} {x c : Nd} {j : Nat} (hc : (kidsL l x)[j]? = some c) : sumK l x (j + 1) = sumK l x j + cntN l (bs c.path) := by
  rw [sumK, List.take_add_one, hc, List.map_append, List.sum_append, sumK]
  simp; omega
theorem kids_le {l : List Nd} (h : rightT l = true) {x : Nd} (hx : x ∈ l) : ∀ j, sumK l x j ≤ 60 := by
  intro j
  have h1 : sumK l x j ≤ cntN l (bs x.path) := by
    rw [← kids_end h hx, sumK, sumK, List.take_length]
    have : (kidsL l x) = (kidsL l x).take j ++ (kidsL l x).drop j := (List.take_append_drop j _).symm
    conv => rhs; rw [this]
    rw [List.map_append, List.sum_append]; omega
  have h2 := cnt_le l (bs x.path)
  have h3 := (right_node h).2.1
  omega
theorem kid_form {l : List Nd} (h : rightT l = true) {x c : Nd} (hc : c ∈ kidsL l x) : c ∈ l ∧ bs c.path = inD (bs x.path) ++ parN (bs c.path) ∧ (nameOf c).size ≤ 20 := by
  rw [kidsL] at hc
  split at hc
  · obtain ⟨h1, h2⟩ := List.mem_filter.1 hc
    obtain ⟨hf, hnm, _⟩ := path_form (right_splits h (tail_in h1)) (tail_ne h h1)
    rw [beq_iff_eq] at h2
    rw [h2] at hf
    exact ⟨tail_in h1, hf, by rw [nameOf, Path.mk_size]; exact Path.name_len hnm⟩
  · cases hc
theorem kids_len {l : List Nd} (h : rightT l = true) (x : Nd) : (kidsL l x).length ≤ 60 := by
  have h3 := (right_node h).2.1
  rw [kidsL]
  split
  · have h1 := List.length_filter_le (fun y => parD (bs y.path) == bs x.path) (l.drop 1)
    rw [List.length_drop] at h1
    rw [childL]; omega
  · simp
theorem bs_append (a b : ByteArray) : bs (a ++ b) = bs a ++ bs b := by simp [bs]
theorem kid_path {l : List Nd} (h : rightT l = true) {x c : Nd} (hc : c ∈ kidsL l x) (hr : bs x.path ≠ [47]) : x.path ++ (⟨#[47]⟩ : ByteArray) ++ nameOf c = c.path := by
  apply Path.bs_inj
  rw [(kid_form h hc).2.1, inD, if_neg hr, bs_append, bs_append, nameOf, bs_mk]; rfl
theorem kid_path0 {l : List Nd} (h : rightT l = true) {x c : Nd} (hc : c ∈ kidsL l x) (hr : bs x.path = [47]) : (⟨#[47]⟩ : ByteArray) ++ nameOf c = c.path := by
  apply Path.bs_inj
  rw [(kid_form h hc).2.1, inD, if_pos hr, bs_append, nameOf, bs_mk]; rfl

set_option maxHeartbeats 4000000 in
theorem law_counts_no (v : Value) (l : List Nd) (w : World) (hM : MaxC w) (h : RdN w v l) (hn : l.length ≤ 8796093022208) (hr : rightT l = false) :
    Calls Tryd.prog 12 #[v] w fun e w' => e = .returned (.bool true) ∧ Below w.heap.size w w' := by
  have e0 := ex_calls w hM
  have h1 : ∀ W, Below w.heap.size w W → _ := fun W hW => right_calls W v l (h.below hW) hn (hM.below hW)
  have h2 : ∀ W, Below w.heap.size w W → _ := fun W hW => over_calls W v l (h.below hW) hn (hM.below hW)
  have h3 : ∀ W, Below w.heap.size w W → _ := fun W hW => count_calls W v l ⟨#[47]⟩ (h.below hW) hn (hM.below hW) (by decide)
  have ho : overL l = [] := by rw [overL, hr]; rfl
  rw [hr] at h1
  rw [cntT_no hr] at h3
  rw [ho] at h2
  obtain ⟨ao, cap, rfl, _, _, _⟩ := rd_cellsN h.rd
  have H1 := Lib.hid h1; have H2 := Lib.hid h2; have H3 := Lib.hid h3
  clear h1 h2 h3 ho hr h hM
  go_enter Tryd.func12, Tryd.ntmps12
  go_wp2_with (fail)
  refine e0.mono ?_
  rintro e w1 ⟨rfl, hB1⟩
  go_wp2_with (fail)
  refine (H1.out _ hB1).mono ?_
  rintro e w2 ⟨rfl, hb2⟩
  have hB2 := hB1.trans (hb2.mono hB1.size)
  go_wp2_with (fail)
  refine (H2.out _ hB2).mono ?_
  rintro e w3 ⟨v3, rfl, hO3, hb3⟩
  have hB3 := hB2.trans (hb3.mono hB2.size)
  obtain ⟨a3, c3, hv3, _, _, _⟩ := rd_cellsS hO3.rd
  subst hv3
  clear hO3
  go_wp2_with (fail)
  refine (H3.out _ hB3).mono ?_
  rintro e w4 ⟨rfl, hb4⟩
  go_wp2_with (fail)
  go_ret
  exact ⟨rfl, hB3.trans (hb4.mono hB3.size)⟩

set_option maxRecDepth 8000 in
set_option maxHeartbeats 16000000 in
theorem law_counts_yes (v : Value) (l : List Nd) (w : World) (hM : MaxC w) (h : RdN w v l) (hn : l.length ≤ 8796093022208) (hr : rightT l = true) :
    Calls Tryd.prog 12 #[v] w fun e w' => e = .returned (.bool true) ∧ Below w.heap.size w w' := by
  have e0 := ex_calls w hM
  have h1 : ∀ W, Below w.heap.size w W → _ := fun W hW => right_calls W v l (h.below hW) hn (hM.below hW)
  have h2 : ∀ W, Below w.heap.size w W → _ := fun W hW => over_calls W v l (h.below hW) hn (hM.below hW)
  have h3 : ∀ W, Below w.heap.size w W → ∀ p : ByteArray, p.size ≤ maxLen → _ := fun W hW p hp => count_calls W v l p (h.below hW) hn (hM.below hW) hp
  have h4 : ∀ W, Below w.heap.size w W → ∀ p : ByteArray, _ := fun W hW p => list_calls W v l p (h.below hW) hn (hM.below hW)
  have h5 : ∀ W, Below w.heap.size w W → ∀ p : ByteArray, _ := fun W hW p => find_calls W v l p (h.below hW) hn
  obtain ⟨q1, q60, _⟩ := right_node hr
  rw [hr] at h1
  obtain ⟨ao, cap, rfl, hcap, _, hcell⟩ := rd_cellsN h.rd
  have H1 := Lib.hid h1; have H2 := Lib.hid h2; have H3 := Lib.hid h3; have H4 := Lib.hid h4; have H5 := Lib.hid h5; have Hcell := Lib.hid hcell; have Hr := Lib.hid hr
  clear h1 h2 h3 h4 h5 hcell hr h hM
  go_enter Tryd.func12, Tryd.ntmps12
  go_wp2_with (fail)
  refine e0.mono ?_
  rintro e w1 ⟨rfl, hB1⟩
  clear e0
  go_wp2_with (fail)
  refine (H1.out _ hB1).mono ?_
  rintro e w2 ⟨rfl, hb2⟩
  have hB2 := hB1.trans (hb2.mono hB1.size)
  clear H1 hb2
  go_wp2_with (fail)
  go_loopw [4] (fun vi wr => ∃ i : Nat, vi = .int .i64 i ∧ i ≤ l.length ∧ Below w.heap.size w wr) (fun vi _ => l.length - (intOf vi).toNat)
  case atStart => exact ⟨0, rfl, Nat.zero_le _, hB2⟩
  case round =>
    obtain ⟨i, rfl, hi, hb⟩ := hrel
    have hsz := hb.size
    by_cases hlt : i < l.length
    · obtain ⟨x, hx⟩ : ∃ x, l[i]? = some x := ⟨l[i], by simp [hlt]⟩
      have hxm := List.mem_of_getElem? hx
      have hcx := fun W (hW : Below w.heap.size w W) => Hcell.out W hW i x hx
      obtain ⟨b, off, rfl, hlb, d0, d1, d2, d3, d4⟩ := hcx wr hb
      have hps : x.path.size ≤ 120 := path_size (right_splits Hr.out hxm)
      have hkl := kids_list Hr.out hxm
      have hke := kids_end Hr.out hxm
      have hk60 := kids_le Hr.out hxm
      have hklen := kids_len Hr.out x
      have hlist := H4.out wr hb x.path
      rw [hkl] at hlist
      have Hcx := Lib.hid hcx; have Hx := Lib.hid hx; have Hke := Lib.hid hke; have Hk60 := Lib.hid hk60; have Hxm := Lib.hid hxm
      generalize listE l (bs x.path) = E at *
      clear hcx hx hke hk60 hkl d1 d2 d3 d4 hxm
      go_wp2_with (fail)
      refine hlist.mono ?_
      rintro e w3 ⟨⟨v3, rfl, hO3⟩, hb3⟩
      have hb3' := hb.trans (hb3.mono hsz)
      obtain ⟨a3, c3, hv3, _, _, hc3⟩ := rd_cellsS hO3.rd
      subst hv3
      rw [List.length_map]
      have Hc3 := Lib.hid hc3
      clear hO3 hc3 hlist d0
      go_wp2_with (fail)
      go_loopw [5, 8] (fun vn vj wr => ∃ j : Nat, vj = .int .i64 j ∧ j ≤ (kidsL l x).length ∧ vn = .int .i64 (sumK l x j) ∧ Below w3.heap.size w3 wr) (fun _ vj _ => (kidsL l x).length - (intOf vj).toNat)
      case atStart => exact ⟨0, rfl, Nat.zero_le _, rfl, Below.refl _ _⟩
      case round =>
        obtain ⟨j, rfl, hj, rfl, hbj⟩ := hrel
        have hjb : Below w.heap.size w wr := hb3'.trans (hbj.mono hb3'.size)
        have hk60 := Hk60.out j
        have hk61 := Hk60.out (j + 1)
        by_cases hjl : j < (kidsL l x).length
        · obtain ⟨c, hc⟩ : ∃ c, (kidsL l x)[j]? = some c := ⟨(kidsL l x)[j], by simp [hjl]⟩
          obtain ⟨bn, on, rfl, _, n0⟩ := Hc3.out wr hbj j (nameOf c) (by rw [List.getElem?_map, hc]; rfl)
          obtain ⟨b', off', he, _, d0, d1, d2, d3, d4⟩ := Hcx.out wr hjb
          simp only [Option.some.injEq, Addr.mk.injEq, and_true] at he
          obtain ⟨rfl, rfl⟩ := he
          have hcm := List.mem_of_getElem? hc
          obtain ⟨hcl, _, hns⟩ := kid_form Hr.out hcm
          have hcs : c.path.size ≤ maxLen := by
            have := path_size (right_splits Hr.out hcl)
            unfold maxLen; omega
          have hnx := kids_next hc
          have n1 : ¬ 9223372036854775807 < x.path.size + 1 := by omega
          have n2 : ¬ 9223372036854775807 < x.path.size + 1 + (nameOf c).size := by omega
          have n3 : ¬ 9223372036854775807 < 1 + (nameOf c).size := by omega
          have hcnt60 := cnt_le l (bs c.path)
          have hkp := fun hr => kid_path Hr.out hcm hr
          have hkp0 := fun hr => kid_path0 Hr.out hcm hr
          have Hnx := Lib.hid hnx; have Hkp := Lib.hid hkp; have Hkp0 := Lib.hid hkp0
          clear hc hcm hcl hkp hkp0 d1 d2 d3 d4 hnx
          generalize hsk : sumK l x j = s at *
          generalize hsk1 : sumK l x (j + 1) = s1 at *
          have Hsk1 := Lib.hid hsk1
          clear hsk hsk1
          by_cases hroot : bs x.path = [47]
          · have hq : (x.path.toList == [47]) = true := by rw [tl_bs, hroot]; rfl
            have hcount : ∀ W, Below w.heap.size w W → Calls Tryd.prog 27 #[.slice (some ⟨b, off, none⟩) l.length cap, .string ((⟨#[47]⟩ : ByteArray) ++ nameOf c)] W fun e w' => e = .returned (.int .i64 (cntN l (bs c.path))) ∧ Below W.heap.size W w' := fun W hW => by
              have := H3.out W hW ((⟨#[47]⟩ : ByteArray) ++ nameOf c) (by rw [Hkp0.out hroot]; exact hcs)
              rwa [show bs ((⟨#[47]⟩ : ByteArray) ++ nameOf c) = bs c.path from congrArg bs (Hkp0.out hroot), cntT_yes Hr.out] at this
            have Hcount := Lib.hid hcount
            clear hroot hcount
            generalize cntN l (bs c.path) = cc at *
            go_wp2_with (fail)
            go_quiet (fail)
            go_wp2_with (fail)
            have hbq : Below wr.heap.size wr (wr.drewN nq) := below_drewN wr nq
            have hbw := hjb.trans (hbq.mono hjb.size)
            refine (Hcount.out _ hbw).mono ?_
            rintro e w5 ⟨rfl, hb5⟩
            have hb5' := hbq.trans (hb5.mono hbq.size)
            clear hbq hbw
            go_wp2_with (fail)
            go_roundw
            case rel => exact ⟨j + 1, by go_num, by omega, by rw [Hsk1.out, Hnx.out]; go_num, hbj.trans (hb5'.mono hbj.size)⟩
            case measure => simp [intOf]; omega
          · have hq : (x.path.toList == [47]) = false := by rw [tl_bs]; exact beq_false_of_ne hroot
            have hcount : ∀ W, Below w.heap.size w W → Calls Tryd.prog 27 #[.slice (some ⟨b, off, none⟩) l.length cap, .string (x.path ++ (⟨#[47]⟩ : ByteArray) ++ nameOf c)] W fun e w' => e = .returned (.int .i64 (cntN l (bs c.path))) ∧ Below W.heap.size W w' := fun W hW => by
              have := H3.out W hW (x.path ++ (⟨#[47]⟩ : ByteArray) ++ nameOf c) (by rw [Hkp.out hroot]; exact hcs)
              rwa [show bs (x.path ++ (⟨#[47]⟩ : ByteArray) ++ nameOf c) = bs c.path from congrArg bs (Hkp.out hroot), cntT_yes Hr.out] at this
            have Hcount := Lib.hid hcount
            clear hroot hcount
            generalize cntN l (bs c.path) = cc at *
            go_wp2_with (fail)
            go_quiet (fail)
            go_wp2_with (fail)
            have hbq : Below wr.heap.size wr (wr.drewN nq) := below_drewN wr nq
            have hbw := hjb.trans (hbq.mono hjb.size)
            refine (Hcount.out _ hbw).mono ?_
            rintro e w5 ⟨rfl, hb5⟩
            have hb5' := hbq.trans (hb5.mono hbq.size)
            clear hbq hbw
            go_wp2_with (fail)
            go_roundw
            case rel => exact ⟨j + 1, by go_num, by omega, by rw [Hsk1.out, Hnx.out]; go_num, hbj.trans (hb5'.mono hbj.size)⟩
            case measure => simp [intOf]; omega
        · obtain rfl : j = (kidsL l x).length := by omega
          obtain ⟨b', off', he, _, d0, d1, d2, d3, d4⟩ := Hcx.out wr hjb
          simp only [Option.some.injEq, Addr.mk.injEq, and_true] at he
          obtain ⟨rfl, rfl⟩ := he
          have hcount := H3.out wr hjb x.path (by unfold maxLen; omega)
          rw [cntT_yes Hr.out, ← Hke.out] at hcount
          generalize sumK l x (kidsL l x).length = s at *
          have Hcount := Lib.hid hcount
          have hne : (((s : Nat) : Int) != ((s : Nat) : Int)) = false := by simp
          clear hcount d1 d2 d3 d4
          go_wp2_with (fail)
          refine Hcount.out.mono ?_
          rintro e w5 ⟨rfl, hb5⟩
          go_wp2_with (fail)
          go_roundw
          case rel => exact ⟨i + 1, by go_num, by omega, hjb.trans (hb5.mono hjb.size)⟩
          case measure => simp [intOf]; omega
    · obtain rfl : i = l.length := by omega
      have hro := Hr.out
      have hcr := H3.out
      go_wp2_with (fail)
      refine (H2.out wr hb).mono ?_
      rintro e w3 ⟨v3, rfl, hO3, hb3⟩
      have hb3' := hb.trans (hb3.mono hsz)
      obtain ⟨a3, c3, hv3, _, _, hc3⟩ := rd_cellsS hO3.rd
      subst hv3
      have hol := over_len l
      have hom := fun p hp => over_mem Hr.out (p := p) hp
      generalize overL l = ol at *
      have Hc3 := Lib.hid hc3; have Hom := Lib.hid hom
      clear hO3 hc3 hom hro hcr
      go_wp2_with (fail)
      go_loopw [11] (fun vj wr => ∃ j : Nat, vj = .int .i64 j ∧ j ≤ ol.length ∧ Below w3.heap.size w3 wr) (fun vj _ => ol.length - (intOf vj).toNat)
      case atStart => exact ⟨0, rfl, Nat.zero_le _, Below.refl _ _⟩
      case round =>
        obtain ⟨j, rfl, hj, hbj⟩ := hrel
        have hjb : Below w.heap.size w wr := hb3'.trans (hbj.mono hb3'.size)
        by_cases hjl : j < ol.length
        · obtain ⟨p, hp⟩ : ∃ p, ol[j]? = some p := ⟨ol[j], by simp [hjl]⟩
          obtain ⟨bn, on, rfl, _, n0⟩ := Hc3.out wr hbj j p hp
          obtain ⟨i, x, hx, hxp, hfi, hq0, hqc⟩ := Hom.out p (List.mem_of_getElem? hp)
          have hcp := fun W (hW : Below w3.heap.size w3 W) => Hc3.out W hW j p hp
          have hcx := fun W (hW : Below w.heap.size w W) => Hcell.out W hW i x hx
          obtain ⟨b, off, rfl, hlb, _⟩ := hcx wr hjb
          have hps : p.size ≤ maxLen := by
            have := path_size (right_splits Hr.out (List.mem_of_getElem? hx))
            rw [← hxp]; unfold maxLen; omega
          have hqm := quota_bd Hr.out (List.mem_of_getElem? hx)
          have hil := (List.getElem?_eq_some_iff.1 hx).1
          have hf := H5.out wr hjb p
          rw [hfi] at hf
          have hcount := fun W hW => H3.out W hW p hps
          rw [cntT_yes Hr.out] at hcount
          have hcnt60 := cnt_le l (bs p)
          generalize cntN l (bs p) = cc at *
          have Hcp := Lib.hid hcp; have Hcx := Lib.hid hcx; have Hcount := Lib.hid hcount
          have hi0 : ¬ (i : Int) < 0 := by omega
          have hi0' : decide ((i : Int) < 0) = false := decide_eq_false hi0
          have hq0' : decide (x.quota < 0) = false := decide_eq_false (by omega)
          clear hp hx hxp hfi hcp hcx hcount
          go_wp2_with (fail)
          refine hf.mono ?_
          rintro e w5 ⟨rfl, hb5⟩
          have hjb5 := hjb.trans (hb5.mono hjb.size)
          have hbj5 := hbj.trans (hb5.mono hbj.size)
          obtain ⟨b', off', he, _, d0, d1, d2, d3, d4⟩ := Hcx.out w5 hjb5
          simp only [Option.some.injEq, Addr.mk.injEq, and_true] at he
          obtain ⟨rfl, rfl⟩ := he
          obtain ⟨b', off', he, _, m0⟩ := Hcp.out w5 hbj5
          simp only [Option.some.injEq, Addr.mk.injEq, and_true] at he
          obtain ⟨rfl, rfl⟩ := he
          have e2 := cell_regrown d2
          have en := cell_regrown m0
          have cF := fun d os => Calls.regrown_of (Hcount.out _ (hjb5.trans ((below_regrown w5 d os).mono hjb5.size)))
          clear d0 d1 d3 d4 n0
          go_wp2_with (fail)
          refine wp_region_quiet_below (by kernel_rfl) (by kernel_rfl) ?_; (repeat (go_big_quiet_step ((exact cF _ _)))); refine wpQuiet_nil ?_; intro _ hw'; obtain ⟨⟨dq, osq⟩, hw''⟩ := hw'; subst hw''
          go_wp2_with (fail)
          go_roundw
          case rel => exact ⟨j + 1, by go_num, by omega, hbj5.trans ((below_regrown w5 dq osq).mono hbj5.size)⟩
          case measure => simp [intOf]; omega
        · obtain rfl : j = ol.length := by omega
          have hcount := H3.out wr hjb ⟨#[47]⟩ (by decide)
          rw [cntT_yes Hr.out, show bs (⟨#[47]⟩ : ByteArray) = [47] from rfl, cnt_root Hr.out] at hcount
          have hll : ((l.length : Int) == (l.length : Int)) = true := beq_self_eq_true _
          go_wp2_with (fail)
          refine hcount.mono ?_
          rintro e w5 ⟨rfl, hb5⟩
          go_wp2_with (fail)
          go_ret
          exact ⟨rfl, hjb.trans (hb5.mono hjb.size)⟩

theorem law_counts (v : Value) (l : List Nd) (w : World) (hM : MaxC w) (h0 : RdN w v l ∧ (∀ x ∈ l, OkN w x) ∧ l.length ≤ 8796093022208) :
    Calls Tryd.prog 12 #[v] w fun e w' => e = .returned (.bool true) ∧ Below w.heap.size w w' := by
  obtain ⟨h, _, hn⟩ := h0
  cases hr : rightT l
  · exact law_counts_no v l w hM h hn hr
  · exact law_counts_yes v l w hM h hn hr
end Go.Proofs.YtbgeiebfjlgcmaaDoor.Quota
