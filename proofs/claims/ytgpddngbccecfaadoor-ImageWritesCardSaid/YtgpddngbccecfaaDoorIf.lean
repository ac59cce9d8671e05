/- Images: a part of an image, walked (image.Encode's closure). -/
import Derived.Test.YtgpddngbccecfaaDoorIa
import Derived.Test.YtgpddngbccecfaaDoorSb
namespace Go.Proofs.YtgpddngbccecfaaDoor.Image
open Go.RowKit
open Path (Bs bs mk bs_mk mk_bs tl_bs MaxC)
open Tree Space
open Wire (numB textB sealB)
set_option linter.unusedSimpArgs false
set_option linter.unusedVariables false
/-- A builder that holds these bytes. -/
def Bld (w : World) (b : Nat) (l : Bs) : Prop := Lib.IsBuilderF 39 5 b b (Lib.byteCells l) w
theorem builderF_below {T e : TypeId} {B b : Nat} {p : Value} {bs : List Value} {w w' : World} (h : Lib.BuilderAtF T e B b p bs w) (hb : Below w.heap.size w w') : Lib.BuilderAtF T e B b p bs w' := by
  obtain ⟨h1, v, h2, h3, h4⟩ := h
  exact ⟨h1, v, (hb.block b (lt_of_block h2)).trans h2, h3.kept (row := none) ⟨hb.os, hb.tape, hb.output, hb.size, fun k hk _ => hb.block k hk⟩ (by cases v.ownBlock <;> simp), h4⟩
theorem Bld.below {w w' : World} {b : Nat} {l : Bs} (h : Bld w b l) (hb : Below w.heap.size w w') : Bld w' b l :=
  h.elim (fun x => .inl (builderF_below x hb)) (fun x => .inr (builderF_below x hb))
theorem Bld.lt {w : World} {b : Nat} {l : Bs} (h : Bld w b l) : b < w.heap.size := h.elim (fun x => x.lt) (fun x => x.lt)
theorem Bld.made (w : World) : Bld (w.alloc (.cells #[.pointer none, .slice none 0 0] 39 (0, 0))) w.heap.size [] :=
  .inl ⟨Nat.le_refl _, .slice none 0 0, heap_alloc_new w _, World.ownsRowF_nil _ _ _ _, by simp [Value.ownBlock]⟩
theorem bytes_app (l : Bs) (s : ByteArray) : Lib.byteCells l ++ Lib.strCells s = Lib.byteCells (l ++ bs s) := by
  rw [Lib.strCells_eq]; simp [Lib.byteCells, bs]
theorem bytes_len (l : Bs) : (Lib.byteCells l).length = l.length := by simp [Lib.byteCells]
/-- WriteString puts a text behind what the builder holds. -/
theorem wstr_calls (w : World) (b : Nat) (l : Bs) (s : ByteArray) (h : Bld w b l) (hn : l.length + s.size ≤ 140737488355328) : Calls Tryd.prog 11 #[.pointer (some ⟨b, 0, none⟩), .string s] w fun e w' =>
    e = .returned (.tuple #[.int .i64 s.size, .nilIface]) ∧ Bld w' b (l ++ bs s) ∧ Below b w w' := by
  refine (Tryd.Builder_WriteString_f b b (Lib.byteCells l) s w h (by rw [bytes_len]; exact hn) (Nat.le_of_lt h.lt)).mono ?_
  rintro e w' ⟨rfl, h1, h2⟩
  exact ⟨rfl, .inr (by rw [← bytes_app]; exact h1), h2⟩
theorem bstr_calls (w : World) (b : Nat) (l : Bs) (h : Bld w b l) : Calls Tryd.prog 14 #[.pointer (some ⟨b, 0, none⟩)] w fun e w' =>
    e = .returned (.string (mk l)) ∧ Bld w' b l ∧ Below b w w' := Tryd.Builder_String_any_f b b l w h (Nat.le_of_lt h.lt)
theorem rd_cellsI {w : World} {v : Value} {l : List Int} (h : Rd w 1 encI v l) : ∃ ao cap, v = .slice ao l.length cap ∧ l.length ≤ cap ∧ cap ≤ maxLen ∧ ∀ W, Below w.heap.size w W → ∀ k x, l[k]? = some x → ∃ b off, ao = some ⟨b, off, none⟩ ∧ b < w.heap.size ∧ W.cell? ⟨b, off + k, none⟩ = some (.int .i64 x) := by
  obtain ⟨ao, cap, rfl, h1, h2, h3⟩ := h
  refine ⟨ao, cap, rfl, h1, h2, fun W hW k x hx => ?_⟩
  obtain ⟨b, off, rfl, hlt, hc⟩ := h3 k x hx
  refine ⟨b, off, rfl, hlt, ?_⟩
  have := hc 0 (.int .i64 x) rfl
  rw [hW.cell (p := ⟨b, off + k, none⟩) hlt]
  simpa using this
theorem numsL_take {l : List Int} {k : Nat} {n : Int} (hx : l[k]? = some n) : numsL (l.take (k + 1)) = numsL (l.take k) ++ numB n := by
  rw [List.take_add_one, hx, nums_app]; simp [numsL]
theorem okI_take {l : List Int} (h : OkI l) (k : Nat) : OkI (l.take k) := fun n hn => h n (List.mem_of_mem_take hn)
set_option maxRecDepth 4000 in
set_option maxHeartbeats 4000000 in
theorem part_calls (w : World) (b : Nat) (acc : Bs) (head : ByteArray) (v : Value) (l : List Int) (h : Bld w b acc) (hv : Rd w 1 encI v l) (hok : OkI l) (hl : l.length ≤ 1000) (hh : head.size ≤ 100000) (ha : acc.length ≤ 1000000) :
    Calls Tryd.prog 10 #[.string head, v, .pointer (some ⟨b, 0, none⟩)] w fun e w' => e = .returned (.tuple #[]) ∧ Bld w' b (acc ++ partB (bs head) l) ∧ Below b w w' := by
  obtain ⟨ao, cap, rfl, _, _, hcell⟩ := rd_cellsI hv
  have hb0 := (Below.refl w.heap.size w).alloc (Nat.le_refl _) (.cells #[.pointer none, .slice none 0 0] 39 (0, 0))
  have hm0 := Bld.made w
  have hblt := h.lt
  have h' := fun W (hW : Below w.heap.size w W) => h.below hW
  have H := Lib.hid h'; have Hcell := Lib.hid hcell; have Hb0 := Lib.hid hb0; have Hm0 := Lib.hid hm0; have Hok := Lib.hid hok
  have hlb := Path.bs_len head
  have Hlb := Lib.hid hlb
  clear h h' hcell hb0 hm0 hok hv hlb
  go_enter Tryd.func10, Tryd.ntmps10
  go_wp2_with (fail)
  refine (wstr_calls _ _ _ _ Hm0.out (by simp; omega)).mono ?_
  rintro e w1 ⟨rfl, hB1, hb1⟩
  have h1 : Below w.heap.size w w1 := Hb0.out.trans (hb1.mono (Nat.le_refl _))
  have hB1' : Bld w1 w.heap.size (bs head ++ numsL (l.take 0)) := by simpa [numsL] using hB1
  have HB1 := Lib.hid hB1'; have H1 := Lib.hid h1
  clear hB1 hB1' hb1 h1
  go_wp2_with (fail)
  go_loopw [14] (fun vk wr => ∃ (k : Nat), vk = .int .i64 k ∧ k ≤ l.length ∧ Bld wr w.heap.size (bs head ++ numsL (l.take k)) ∧ Below w.heap.size w wr) (fun vk _ => l.length - (intOf vk).toNat)
  case atStart => exact ⟨0, rfl, Nat.zero_le _, HB1.out, H1.out⟩
  case round =>
    obtain ⟨k, rfl, hk, hB, hb⟩ := hrel
    have hnl := nums_len (okI_take Hok.out k)
    rw [List.length_take] at hnl
    have hsz : (bs head ++ numsL (l.take k)).length ≤ 120000 := by rw [List.length_append, Hlb.out]; omega
    have HB := Lib.hid hB; have Hb := Lib.hid hb
    clear hB hb
    by_cases hlt : k < l.length
    · obtain ⟨n, hn⟩ : ∃ n, l[k]? = some n := ⟨l[k], by simp [hlt]⟩
      obtain ⟨b', off', rfl, _, c0⟩ := Hcell.out wr Hb.out k n hn
      have hin := Hok.out n (List.mem_of_getElem? hn)
      have hst := numsL_take hn
      have hnb := Wire.numB_len hin
      have hnum := fun W => Wire.num_calls W n hin
      have Hst := Lib.hid hst; have Hnum := Lib.hid hnum
      clear hst hnum hn hnl
      go_wp2_with (fail)
      refine (Hnum.out wr).mono ?_
      rintro e w2 ⟨rfl, hb2⟩
      have hB2 := HB.out.below hb2
      have hb2' : Below w.heap.size w w2 := Hb.out.trans (hb2.mono Hb.out.size)
      have HB2 := Lib.hid hB2; have Hb2 := Lib.hid hb2'
      clear hB2 hb2 hb2' c0
      go_wp2_with (fail)
      refine (wstr_calls _ _ _ _ HB2.out (by rw [Path.mk_size]; omega)).mono ?_
      rintro e w3 ⟨rfl, hB3, hb3⟩
      rw [bs_mk, List.append_assoc, ← Hst.out] at hB3
      have HB3 := Lib.hid hB3; have Hb3 := Lib.hid (Hb2.out.trans hb3)
      clear hB3 hb3
      go_wp2_with (fail)
      go_roundw
      case rel => exact ⟨k + 1, by go_num, by omega, HB3.out, Hb3.out⟩
      case measure => simp [intOf]; omega
    · obtain rfl : k = l.length := by omega
      have hB4 := HB.out
      rw [List.take_length] at hB4 hsz
      have HB4 := Lib.hid hB4
      clear hB4 hnl
      go_wp2_with (fail)
      refine (bstr_calls _ _ _ HB4.out).mono ?_
      rintro e w2 ⟨rfl, -, hb2⟩
      have hb2' : Below w.heap.size w w2 := Hb.out.trans hb2
      have hs : (mk (bs head ++ numsL l)).size ≤ 120000 := by rw [Path.mk_size]; exact hsz
      have hpb : partB (bs head) l = if (mk (bs head ++ numsL l)).size ≤ 4000 then sealB (bs head ++ numsL l) else [] := by rw [partB, sealS, Path.mk_size]
      have hseal := fun W => Wire.seal_calls W (mk (bs head ++ numsL l)) (by omega)
      have Hseal := Lib.hid hseal; have Hpb := Lib.hid hpb; have Hb2 := Lib.hid hb2'
      clear hseal hpb hb2 hb2'
      generalize hM : mk (bs head ++ numsL l) = M at *
      have HM := Lib.hid hM
      clear hM
      go_wp2_with (fail)
      refine (Hseal.out w2).mono ?_
      rintro e w3 ⟨⟨hle, rfl⟩ | ⟨hle, rfl⟩, hb3⟩
      all_goals
        have hb3' : Below w.heap.size w w3 := Hb2.out.trans (hb3.mono Hb2.out.size)
        have hB5 := H.out w3 hb3'
        have HB5 := Lib.hid hB5; have Hb3 := Lib.hid hb3'
        clear hB5 hb3 hb3'
        go_wp2_with (fail)
        refine (wstr_calls _ _ _ _ HB5.out (by first | (rw [Path.mk_size, ← HM.out, bs_mk]; rw [← HM.out, Path.mk_size] at hle; have := Wire.textB_len hle; rw [sealB, List.length_append, Wire.fourB_len]; omega) | (show _ + 0 ≤ _; omega))).mono ?_
        rintro e w4 ⟨rfl, hB6, hb6⟩
        have hp := Hpb.out
        first | rw [if_pos hle] at hp | rw [if_neg hle] at hp
        go_wp2_with (fail)
        go_end0
        refine ⟨rfl, ?_, (Hb3.out.mono (Nat.le_of_lt hblt)).trans hb6⟩
        first
          | (rw [bs_mk, ← HM.out, bs_mk] at hB6; rw [hp]; exact hB6)
          | (rw [hp]; exact hB6)
end Go.Proofs.YtgpddngbccecfaaDoor.Image
