/- Quotas: quota.Room. -/
import Derived.Test.YtbgeiebfjlgcmaaDoorQc
import Derived.Test.YtbgeiebfjlgcmaaDoorTj
namespace Go.Proofs.YtbgeiebfjlgcmaaDoor.Quota
open Go.RowKit Go.Maps Go.WideMaps
open Path (Bs bs mk bs_mk mk_bs tl_bs splitE splitL MaxC parD parE parN underL under_iff under_anti OwnS flatS flatS_snoc etS)
open Tree
set_option linter.unusedSimpArgs false
set_option linter.unusedVariables false

def dirAt (l : List Nd) (p : Bs) : Bool := match l.find? (fun x => bs x.path == p) with
  | none => false
  | some x => x.dir
def roomStep (l : List Nd) (p : Bs) (n : Int) (x : Nd) : Int := if 0 ≤ x.quota ∧ underL (bs x.path) p = true then min n (x.quota - cntN l (bs x.path)) else n
def roomK (l : List Nd) (p : Bs) (k : Nat) : Int := (l.take k).foldl (roomStep l p) (60 - l.length)
def roomT (l : List Nd) (p : Bs) : Int := if rightT l = true ∧ dirAt l p = true then max (roomK l p l.length) 0 else 0
theorem room_next {l : List Nd} {p : Bs} {k : Nat} {x : Nd} (hx : l[k]? = some x) : roomK l p (k + 1) = roomStep l p (roomK l p k) x := by
  rw [roomK, List.take_add_one, hx, List.foldl_append]; rfl
theorem step_bd {l : List Nd} {p : Bs} {n : Int} {x : Nd} (hl : l.length ≤ 60) (hn : -60 ≤ n ∧ n ≤ 60) : -60 ≤ roomStep l p n x ∧ roomStep l p n x ≤ 60 := by
  have := cnt_le l (bs x.path)
  rw [roomStep]
  split
  · omega
  · exact hn
theorem room_bd {l : List Nd} {p : Bs} (hl : l.length ≤ 60) : ∀ k, -60 ≤ roomK l p k ∧ roomK l p k ≤ 60
  | 0 => by rw [roomK, List.take_zero]; simp only [List.foldl_nil]; omega
  | k + 1 => by
    by_cases hk : k < l.length
    · rw [room_next (x := l[k]) (by simp [hk])]
      exact step_bd hl (room_bd hl k)
    · have e : l.take (k + 1) = l.take k := by rw [List.take_of_length_le (by omega), List.take_of_length_le (by omega)]
      rw [roomK, e]
      exact room_bd hl k
theorem quota_bd {l : List Nd} (h : rightT l = true) {x : Nd} (hx : x ∈ l) : -1 ≤ x.quota ∧ x.quota ≤ 9007199254740991 := by
  simp only [rightT, rightA, Bool.and_eq_true] at h
  obtain ⟨⟨_, h2⟩, _⟩ := h
  obtain ⟨k, hk, rfl⟩ := List.mem_iff_getElem.1 hx
  have := (rightA_at (l := l) (fun j hj => List.all_eq_true.1 h2 j (List.mem_range.2 hj)) (k := k) (x := l[k]) (by simp [hk])).1
  simp only [fitsN, Bool.and_eq_true, decide_eq_true_eq] at this
  obtain ⟨⟨⟨_, h3⟩, _⟩, h4⟩ := this
  refine ⟨h3, ?_⟩
  split at h4
  · simp only [Bool.and_eq_true, decide_eq_true_eq] at h4; exact h4.2
  · simp only [Bool.and_eq_true, decide_eq_true_eq] at h4; omega

theorem room_ways (l : List Nd) (p : Bs) (n : Int) (x : Nd) : (¬ 0 ≤ x.quota ∧ roomStep l p n x = n) ∨ (0 ≤ x.quota ∧ underL (bs x.path) p = false ∧ roomStep l p n x = n) ∨ (0 ≤ x.quota ∧ underL (bs x.path) p = true ∧ roomStep l p n x = min n (x.quota - cntN l (bs x.path))) := by
  rw [roomStep]
  by_cases h1 : 0 ≤ x.quota
  · cases h2 : underL (bs x.path) p
    · exact .inr (.inl ⟨h1, rfl, by simp⟩)
    · exact .inr (.inr ⟨h1, rfl, by simp [h1]⟩)
  · exact .inl ⟨h1, by simp [h1]⟩

set_option maxHeartbeats 4000000 in
theorem room_no (w : World) (v : Value) (l : List Nd) (p : ByteArray) (h : RdN w v l) (hn : l.length ≤ 8796093022208) (hM : MaxC w) (hd : (rightT l = true ∧ dirAt l (bs p) = true) → False) :
    Calls Tryd.prog 29 #[v, .string p] w fun e w' => e = .returned (.int .i64 0) ∧ Below w.heap.size w w' := by
  have h1 := counts_calls w v l h hn hM
  have h2 : ∀ W, Below w.heap.size w W → _ := fun W hW => find_calls W v l p (h.below hW) hn
  have hff := find_facts (bs p) l
  obtain ⟨ao, cap, rfl, hcap, _, hcell⟩ := rd_cellsN h.rd
  have H2 := Lib.hid h2; have Hcell := Lib.hid hcell; have Hff := Lib.hid hff
  clear h hM h2 hcell hff
  generalize findI (bs p) l = fi at *
  go_enter Tryd.func29, Tryd.ntmps29
  go_wp2_with (fail)
  refine h1.mono ?_
  rintro e w1 ⟨B, n, rfl, hm, hb1⟩
  go_wp2_with (fail)
  refine (H2.out w1 hb1).mono ?_
  rintro e w2 ⟨rfl, hb2⟩
  have hm2 := hm.below hb2 hm.lt
  have hbw := hb1.trans (hb2.mono hb1.size)
  obtain ⟨m, hlen, h0⟩ := hm2.len
  clear hm hm2
  cases hr : rightT l
  · rw [hr] at h0
    simp only [Bool.not_false] at h0
    clear hr hd
    go_wp2_with (fail)
    go_ret
    exact ⟨rfl, hbw⟩
  · rw [hr] at h0
    simp only [Bool.not_true] at h0
    rcases Hff.out with ⟨rfl, _⟩ | ⟨i, x, rfl, hx, hf⟩
    · clear hr hd Hff
      go_wp2_with (fail)
      go_ret
      exact ⟨rfl, hbw⟩
    · have hxd : x.dir = false := by
        cases hdd : x.dir
        · rfl
        · exact (hd ⟨hr, by rw [dirAt, hf]; exact hdd⟩).elim
      obtain ⟨b, off, rfl, hlb, d0, d1, d2, d3, d4⟩ := Hcell.out w2 hbw i x hx
      rw [hxd] at d1
      have hil := (List.getElem?_eq_some_iff.1 hx).1
      have hi0 : ¬ (i : Int) < 0 := by omega
      clear hr hd Hff hx hf hxd
      go_wp2_with (fail)
      go_ret
      exact ⟨rfl, hbw⟩

set_option maxRecDepth 4000 in
set_option maxHeartbeats 4000000 in
theorem room_yes (w : World) (v : Value) (l : List Nd) (p : ByteArray) (h : RdN w v l) (hn : l.length ≤ 8796093022208) (hM : MaxC w) (hr : rightT l = true) (hd : dirAt l (bs p) = true) :
    Calls Tryd.prog 29 #[v, .string p] w fun e w' => e = .returned (.int .i64 (max (roomK l (bs p) l.length) 0)) ∧ Below w.heap.size w w' := by
  have h1 := counts_calls w v l h hn hM
  have h2 : ∀ W, Below w.heap.size w W → _ := fun W hW => find_calls W v l p (h.below hW) hn
  have hun : ∀ W, Below w.heap.size w W → ∀ a : ByteArray, _ := fun W hW a => Path.under_calls W a p (hM.below hW)
  have hbvs : ∀ x ∈ l, ∃ ao cap, x.bv = .slice ao x.blocks.length cap := fun x hx => bv_slice (h.bl x hx)
  obtain ⟨hl1, hl60, _⟩ := right_node hr
  obtain ⟨i, x0, hfi, hx0, hxd⟩ : ∃ (i : Nat) (x : Nd), findI (bs p) l = i ∧ l[i]? = some x ∧ x.dir = true := by
    rcases find_facts (bs p) l with ⟨_, hf⟩ | ⟨i, x, h1, h2, h3⟩
    · rw [dirAt, hf] at hd; cases hd
    · rw [dirAt, h3] at hd; exact ⟨i, x, h1, h2, hd⟩
  obtain ⟨ao, cap, rfl, hcap, _, hcell⟩ := rd_cellsN h.rd
  have H2 := Lib.hid h2; have Hcell := Lib.hid hcell; have Hun := Lib.hid hun; have Hbvs := Lib.hid hbvs; have Hr := Lib.hid hr
  have hbd := fun k => room_bd (l := l) (p := bs p) hl60 k
  have Hbd := Lib.hid hbd
  have hil := (List.getElem?_eq_some_iff.1 hx0).1
  have Hx0 := Lib.hid hx0
  rw [hfi] at H2
  clear h hM h2 hcell hun hbvs hr hd hbd hfi hx0
  go_enter Tryd.func29, Tryd.ntmps29
  go_wp2_with (fail)
  refine h1.mono ?_
  rintro e w1 ⟨B, n, rfl, hm, hb1⟩
  go_wp2_with (fail)
  refine (H2.out w1 hb1).mono ?_
  rintro e w2 ⟨rfl, hb2⟩
  have hm2 := hm.below hb2 hm.lt
  have hbw := hb1.trans (hb2.mono hb1.size)
  obtain ⟨m, hlen, h0⟩ := hm2.len
  rw [Hr.out] at h0
  simp only [Bool.not_true] at h0
  have hB := hm2.lt
  have Hm2 := Lib.hid hm2
  have Hbw := Lib.hid hbw
  obtain ⟨b, off, rfl, hlb, d0, d1, d2, d3, d4⟩ := Hcell.out w2 hbw i x0 Hx0.out
  rw [hxd] at d1
  have hi0 : ¬ (i : Int) < 0 := by omega
  clear hm hm2 hbw hxd
  go_wp2_with (fail)
  clear hlen h0 d0 d1 d2 d3 d4
  go_loopw [7, 35] (fun vn vk wr => ∃ k : Nat, vk = .int .i64 k ∧ k ≤ l.length ∧ vn = .int .i64 (roomK l (bs p) k) ∧ Below w2.heap.size w2 wr) (fun _ vk _ => l.length - (intOf vk).toNat)
  case atStart => exact ⟨0, rfl, Nat.zero_le _, rfl, Below.refl _ _⟩
  case round =>
    obtain ⟨k, rfl, hk, rfl, hb⟩ := hrel
    have hsz := hb.size
    have hbdk := Hbd.out k
    by_cases hlt : k < l.length
    · obtain ⟨x, hx⟩ : ∃ x, l[k]? = some x := ⟨l[k], by simp [hlt]⟩
      have hbr : Below w.heap.size w wr := Hbw.out.trans (hb.mono Hbw.out.size)
      obtain ⟨b', off', he, _, d0, d1, d2, d3, d4⟩ := Hcell.out wr hbr k x hx
      simp only [Option.some.injEq, Addr.mk.injEq, and_true] at he
      obtain ⟨rfl, rfl⟩ := he
      have hxm := List.mem_of_getElem? hx
      obtain ⟨ax, cx, hbvx⟩ := Hbvs.out x hxm
      rw [hbvx] at d3
      have hps : x.path.size ≤ maxLen := by
        have := path_size ((right_node Hr.out).2.2 x hxm)
        unfold maxLen; omega
      have hq := quota_bd Hr.out hxm
      have hA : Below w2.heap.size w2 (wr.alloc (.cells #[.string x.path, .bool x.dir, .int .i64 x.quota, .slice ax x.blocks.length cx, .int .i64 x.writer] 45 (0, 0))) := hb.alloc hsz _
      have hAk := heap_alloc_new wr (.cells #[.string x.path, .bool x.dir, .int .i64 x.quota, .slice ax x.blocks.length cx, .int .i64 x.writer] 45 (0, 0))
      have hua := Hun.out (wr.alloc (.cells #[.string x.path, .bool x.dir, .int .i64 x.quota, .slice ax x.blocks.length cx, .int .i64 x.writer] 45 (0, 0))) (Hbw.out.trans (hA.mono Hbw.out.size)) x.path
      have hways := room_ways l (bs p) (roomK l (bs p) k) x
      rw [← room_next hx] at hways
      have hmA := fun W (hW : Below w2.heap.size w2 W) => (Hm2.out.below hW hB).look hps
      rw [cntT, if_pos Hr.out] at hmA
      have hc60 := cnt_le l (bs x.path)
      have hbd1 := Hbd.out (k + 1)
      generalize cntN l (bs x.path) = c at *
      generalize roomK l (bs p) k = r0 at *
      generalize hr1 : roomK l (bs p) (k + 1) = r1 at *
      have HA := Lib.hid hA; have HAk := Lib.hid hAk; have HmA := Lib.hid hmA; have Hr1 := Lib.hid hr1
      clear hx hxm hbvx hA hmA hAk hbr hr1
      rcases hways with ⟨c1, rfl⟩ | ⟨c1, c2, rfl⟩ | ⟨c1, c2, c3⟩
      · go_wp2_with (fail)
        go_roundw
        case rel => exact ⟨k + 1, by go_num, by omega, by rw [Hr1.out], HA.out⟩
        case measure => simp [intOf]; omega
      · rw [c2] at hua
        clear c2
        go_wp2_with (fail)
        refine hua.mono ?_
        rintro e w3 ⟨rfl, hb3⟩
        go_wp2_with (fail)
        go_roundw
        case rel => exact ⟨k + 1, by go_num, by omega, by rw [Hr1.out], HA.out.trans (hb3.mono HA.out.size)⟩
        case measure => simp [intOf]; omega
      · rw [c2] at hua
        have Hc3 := Lib.hid c3
        clear c2 c3
        go_wp2_with (fail)
        refine hua.mono ?_
        rintro e w3 ⟨rfl, hb3⟩
        have hB3 := HA.out.trans (hb3.mono HA.out.size)
        have hl3 := HmA.out w3 hB3
        have hk3 := (hb3.block wr.heap.size (by simp)).trans HAk.out
        have k0 := cell_of_blk (j := 0) hk3
        have k2 := cell_of_blk (j := 2) hk3
        simp only [List.getElem?_toArray, List.getElem?_cons_zero, List.getElem?_cons_succ] at k0 k2
        clear hk3
        go_wp2_with (fail)
        go_roundw
        case rel => exact ⟨k + 1, by go_num, by omega, by rw [Hr1.out, Hc3.out], hB3⟩
        case measure => simp [intOf]; omega
    · obtain rfl : k = l.length := by omega
      go_wp2_with (fail)
      go_ret
      exact ⟨rfl, Hbw.out.trans (hb.mono Hbw.out.size)⟩
theorem room_calls (w : World) (v : Value) (l : List Nd) (p : ByteArray) (h : RdN w v l) (hn : l.length ≤ 8796093022208) (hM : MaxC w) :
    Calls Tryd.prog 29 #[v, .string p] w fun e w' => e = .returned (.int .i64 (roomT l (bs p))) ∧ Below w.heap.size w w' := by
  rw [roomT]
  by_cases hd : rightT l = true ∧ dirAt l (bs p) = true
  · rw [if_pos hd]; exact room_yes w v l p h hn hM hd.1 hd.2
  · rw [if_neg hd]; exact room_no w v l p h hn hM hd
end Go.Proofs.YtbgeiebfjlgcmaaDoor.Quota
