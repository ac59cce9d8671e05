/- MailPlays: mail does, deed by deed, what the document's mail does. -/
import Derived.Test.YtdkebkalcelgpaaMq
import Derived.Test.YtdkebkalcelgpaaO
import Derived.Deep.Strs
namespace Go.Proofs.Ytdkebkalcelgpaa.Mail
open Go.RowKit Go.ChangeShapes Go.WideShapes Go.ChangeAt

structure De where
  kind : Int
  to : Int
  data : ByteArray
  n : Int
def encD (x : De) : List Value := [.int .i64 x.kind, .int .i64 x.to, .string x.data, .int .i64 x.n]
structure OkD (x : De) : Prop where
  kind : inI x.kind
  to : inI x.to
  data : x.data.size ≤ maxLen
  n : inI x.n

theorem open_deeds {H : Type} {enc : TypeId × Value → H} {W : World} {base : Nat} {v : Value} {d : DataW H} {p : List MemPlace} (hv : Value.okWide Try.prog W .any base 22 v) (h : DataW.Trod enc Try.prog W 0 (fun _ => true) true 22 v d p)
    (hs : ∀ e, Try.prog.underlying 22 = some (.slice e) → ∀ el sp, d = .slice el sp → (el.length + sp.length) * Try.prog.bytesOf e ≤ reachBytes) :
    ∃ l : List De, Rd W 4 encD v l ∧ (∀ a ∈ l, OkD a) ∧ l.length * 40 ≤ 140737488351232 := by
  refine open_rows 4 40 encD OkD Try.underlying22 (by kernel_rfl) (by decide) (by kernel_rfl) (fun n cs x hl hx => ?_) (okWide_slice Try.underlying22 hv) h (hs _ Try.underlying22)
  obtain ⟨y0, y1, y2, n1, _, _, h0, h1, h2⟩ := Deep.trod_struct3 Try.underlying34 hx
  obtain ⟨z0, e0, _, hz0⟩ := DataW.trod_int Try.underlying3 h0
  obtain ⟨y10, y11, n2, _, _, h10, h11⟩ := trod_struct2 Try.underlying32 h1
  obtain ⟨z1, e1, _, hz1⟩ := DataW.trod_int Try.underlying3 h10
  obtain ⟨z2, e2, _, hz2⟩ := DataW.trod_string Try.underlying9 h11
  obtain ⟨z3, e3, _, hz3⟩ := DataW.trod_int Try.underlying3 h2
  refine ⟨⟨z0, z1, z2, z3⟩, ?_, inI_of hz0, inI_of hz1, hz2, inI_of hz3⟩
  match cs, hl with
  | [c0, c1, c2, c3], _ =>
    have k3 : Try.prog.cellsOf 3 = 1 := by kernel_rfl
    have k9 : Try.prog.cellsOf 9 = 1 := by kernel_rfl
    have k32 : Try.prog.cellsOf 32 = 2 := by kernel_rfl
    dsimp only at e0 e1 e2 e3
    rw [k3] at e0 e1 e3
    rw [k9] at e2
    rw [k32] at e1 e2
    simp at e0 e1 e2 e3
    rw [e0, e1, e2, e3]
    rfl

set_option maxRecDepth 4000 in
set_option maxHeartbeats 8000000 in
theorem law_plays (v : Value) (ds : List De) (w : World) (h : Rd w 4 encD v ds ∧ (∀ a ∈ ds, OkD a) ∧ ds.length * 40 ≤ 140737488351232) :
    Calls Try.prog 3 #[v] w fun e w' => e = .returned (.bool true) ∧ Below w.heap.size w w' := by
  obtain ⟨hrd, hin, hol⟩ := h
  have hcell : ∀ W, Below w.heap.size w W → ∀ k x, ds[k]? = some x → ∃ b off cap, v = .slice (some ⟨b, off, none⟩) ds.length cap ∧ b < w.heap.size ∧ W.cell? ⟨b, off + k * 4, none⟩ = some (.int .i64 x.kind) ∧ W.cell? ⟨b, off + k * 4 + 1, none⟩ = some (.int .i64 x.to) ∧ W.cell? ⟨b, off + k * 4 + 2, none⟩ = some (.string x.data) ∧ W.cell? ⟨b, off + k * 4 + 3, none⟩ = some (.int .i64 x.n) := fun W hW k x hx => by
    obtain ⟨ao, cap, hv, _, _, hc⟩ := hrd.below hW (Nat.le_refl _)
    obtain ⟨b, off, rfl, hlt, hcc⟩ := hc k x hx
    obtain ⟨ao', cap', hv', _, _, hc'⟩ := hrd
    rw [hv'] at hv
    simp only [Value.slice.injEq, true_and] at hv
    obtain ⟨rfl, rfl⟩ := hv
    obtain ⟨b', off', e, hlt', _⟩ := hc' k x hx
    simp only [Option.some.injEq, Addr.mk.injEq, and_true] at e
    obtain ⟨rfl, rfl⟩ := e
    exact ⟨b, off, cap', hv', hlt', by have := hcc 0 _ rfl; simpa using this, hcc 1 _ rfl, hcc 2 _ rfl, hcc 3 _ rfl⟩
  obtain ⟨ao, cap0, hv1⟩ : ∃ ao cap, v = .slice ao ds.length cap := by obtain ⟨ao, cap, hv, _⟩ := hrd; exact ⟨ao, cap, hv⟩
  subst hv1
  have hex := examples_calls w
  have Hcell := Lib.hid hcell
  have Hin := Lib.hid hin
  clear hrd hcell hin
  go_enter Try.func3, Try.ntmps3
  go_wp2_with (first
    | (go_at_call 11; refine hex.mono ?_; rintro e w1 ⟨rfl, hb1⟩)
    | (go_at_call 12; refine (new_calls _).mono ?_; rintro e w2 ⟨rfl, rfl⟩))
  have O1 := new_pair w1
  have hz1 := hb1.size
  generalize hW : (w1.alloc (.cells #[.slice none 0 0] 75)).alloc (.cells #[.slice none 0 0, .slice none 0 0] 30) = w2 at *
  clear hW hex
  go_loopw [6] (fun vk wr => ∃ (k : Nat) (l : List Ag), vk = .int .i64 k ∧ k ≤ 100 ∧ k ≤ ds.length ∧ Good k l ∧ Pair w1 wr w1.heap.size (w1.heap.size + 1) l l []) (fun vk _ => (100 - intOf vk).toNat)
  case atStart => exact ⟨0, [], rfl, by omega, by omega, ⟨by simp, by simp, by simp⟩, O1⟩
  case round =>
    obtain ⟨k, l, rfl, hk1, hk2, hg, O⟩ := hrel
    have hb := hb1.trans (O.bel.mono hb1.size)
    have hzr := O.bel.size
    by_cases h100 : k < 100
    · by_cases hkn : k < ds.length
      · obtain ⟨x, hx⟩ : ∃ x, ds[k]? = some x := ⟨ds[k], by simp [hkn]⟩
        obtain ⟨bd, od, cp, hvv, hbd, c0, c1, c2, c3⟩ := Hcell.out wr hb k x hx
        simp only [Value.slice.injEq, true_and] at hvv
        obtain ⟨rfl, rfl⟩ := hvv
        have hok := Hin.out x (List.mem_of_getElem? hx)
        obtain ⟨p0, p1⟩ := pickI_bd x.kind 5 (by omega)
        have hpi := fun W => pick_calls W x.kind 5 hok.kind.1 hok.kind.2 (by omega) (by omega)
        have T := O.push (.cells #[.int .i64 x.kind, .int .i64 x.to, .string x.data, .int .i64 x.n] 34)
        have hsz := hok.data
        have Hx := Lib.hid hx; clear hx hok O
        have hmem : ∀ o : Obj, (wr.heap.size, o) ∈ [(wr.heap.size, o)] := fun o => List.mem_singleton.2 rfl
        have hdeed : wr.heap.size < wr.heap.size + 1 := by omega
        obtain ⟨wB, hwB⟩ : ∃ W, W = wr.alloc (.cells #[.int .i64 x.kind, .int .i64 x.to, .string x.data, .int .i64 x.n] 34) := ⟨_, rfl⟩
        rw [← hwB] at T
        have hk0 := T.kept (hmem _)
        have c01 : wB.cell? ⟨wr.heap.size, 1, none⟩ = some (.int .i64 x.to) := cell_of_blk (j := 1) hk0
        have c02 : wB.cell? ⟨wr.heap.size, 2, none⟩ = some (.string x.data) := cell_of_blk (j := 2) hk0
        have c03 : wB.cell? ⟨wr.heap.size, 3, none⟩ = some (.int .i64 x.n) := cell_of_blk (j := 3) hk0
        have HwB := Lib.hid hwB; clear hwB hk0 hmem
        have hpk : pickI x.kind 5 = 0 ∨ pickI x.kind 5 = 1 ∨ pickI x.kind 5 = 2 ∨ pickI x.kind 5 = 3 ∨ pickI x.kind 5 = 4 := by omega
        clear p0 p1
        rcases hpk with hp | hp | hp | hp | hp
        all_goals
          rw [hp] at hpi
          have Hp := Lib.hid hp; clear hp
          go_wp2_with (go_at_call 13; (rw [← HwB.out]); refine (hpi _).mono ?_; rintro e w3 ⟨rfl, rfl⟩)
          have hages : ∀ y ∈ l, 0 ≤ y.age ∧ y.age ≤ 1000000 := fun y hy => by have := hg.age y hy; omega
        focus
          have TA := T.left1 (R := fun e => e = .returned (.int .i64 (sendE l x.data))) fun F h => send_calls _ _ _ F x.to x.data h hg.small hsz
          refine TA.mono ?_; rintro e w4 ⟨rfl, T4⟩; clear TA
          have hk4 := T4.kept (List.mem_singleton.2 rfl)
          have c41 : w4.cell? ⟨wr.heap.size, 1, none⟩ = some (.int .i64 x.to) := cell_of_blk (j := 1) hk4
          have c42 : w4.cell? ⟨wr.heap.size, 2, none⟩ = some (.string x.data) := cell_of_blk (j := 2) hk4
          clear hk4
          go_wp2_with (fail)
          have TB := T4.left2 (R := fun e => e = .returned (.int .i64 (sendE l x.data))) fun F h => rsend_calls _ _ _ F x.to x.data h hg.small hsz
          refine TB.mono ?_; rintro e wT ⟨rfl, TT⟩; clear TB T4 c41 c42
          go_wp2_with (fail)
          have hgT : Good (k + 1) (sendL l x.to x.data) := (hg.send _ _).up
          generalize hlT : sendL l x.to x.data = lT at *
          clear hlT
        rotate_left
        focus
          have TA := T.left1 (R := fun e => e = .returned (.int .i64 (sendE l x.data))) fun F h => send_calls _ _ _ F x.to x.data h hg.small hsz
          refine TA.mono ?_; rintro e w4 ⟨rfl, T4⟩; clear TA
          have hk4 := T4.kept (List.mem_singleton.2 rfl)
          have c41 : w4.cell? ⟨wr.heap.size, 1, none⟩ = some (.int .i64 x.to) := cell_of_blk (j := 1) hk4
          have c42 : w4.cell? ⟨wr.heap.size, 2, none⟩ = some (.string x.data) := cell_of_blk (j := 2) hk4
          clear hk4
          go_wp2_with (fail)
          have TB := T4.left2 (R := fun e => e = .returned (.int .i64 (sendE l x.data))) fun F h => rsend_calls _ _ _ F x.to x.data h hg.small hsz
          refine TB.mono ?_; rintro e wT ⟨rfl, TT⟩; clear TB T4 c41 c42
          go_wp2_with (fail)
          have hgT : Good (k + 1) (sendL l x.to x.data) := (hg.send _ _).up
          generalize hlT : sendL l x.to x.data = lT at *
          clear hlT
        rotate_left
        focus
          have TA := T.left1 (R := fun e => e = .returned (.tuple #[.agg #[.int .i64 (takeX l x.n).to, .string (takeX l x.n).data], .bool (takeB l x.n)])) fun F h => take_any x.n h hg.small
          refine TA.mono ?_; rintro e w4 ⟨rfl, T4⟩; clear TA
          have hk4 := T4.kept (List.mem_singleton.2 rfl)
          have c43 : w4.cell? ⟨wr.heap.size, 3, none⟩ = some (.int .i64 x.n) := cell_of_blk (j := 3) hk4
          have hl4 := lt_of_block hk4
          clear hk4
          go_wp2_with (fail)
          have T4' := T4.push (.cells #[.int .i64 (takeX l x.n).to, .string (takeX l x.n).data] 32)
          have TB := T4'.left2 (R := fun e => e = .returned (.tuple #[.agg #[.int .i64 (takeX l x.n).to, .string (takeX l x.n).data], .bool (takeB l x.n)])) fun F h => rtake_any x.n h hg.small
          refine TB.mono ?_; rintro e wT ⟨rfl, TT⟩; clear TB T4 T4' c43
          have hkT := TT.kept (k := w4.heap.size) (List.mem_cons_self ..)
          have cT0 : wT.cell? ⟨w4.heap.size, 0, none⟩ = some (.int .i64 (takeX l x.n).to) := cell_of_blk (j := 0) hkT
          have cT1 : wT.cell? ⟨w4.heap.size, 1, none⟩ = some (.string (takeX l x.n).data) := cell_of_blk (j := 1) hkT
          have hlT4 := lt_of_block hkT
          have T5 := TT.push (.cells #[.int .i64 (takeX l x.n).to, .string (takeX l x.n).data] 32)
          have hgT : Good (k + 1) (takeL l x.n) := (hg.take _).up
          clear hkT TT hl4
          have TT := T5.forget
          clear T5
          generalize hlT : takeL l x.n = lT at *
          generalize takeX l x.n = X at *
          generalize takeB l x.n = B at *
          clear hlT
          have g1 : Try.prog.eqGuardType Try.prog.depth 32 = false := by kernel_rfl
          have g2 : ∀ W, (Op.equalIn 10000 32 (.agg #[.int .i64 X.to, .string X.data]) (.agg #[.int .i64 X.to, .string X.data])).run Try.prog W = .ok true W := fun W => by
            have := eqMs W X X
            rwa [show msEq X X = true by simp [msEq]] at this
          go_wp2_with (fail)
          clear g1 g2 cT0 cT1 hlT4
          generalize wT.alloc (.cells #[.int .i64 X.to, .string X.data] 32) = wU at TT ⊢
        rotate_left
        focus
          have TA := T.left1 (R := fun e => e = .returned (.int .i64 (twinE l x.n))) fun F h => twin_any x.n h hg.small hg.bytes
          refine TA.mono ?_; rintro e w4 ⟨rfl, T4⟩; clear TA
          have hk4 := T4.kept (List.mem_singleton.2 rfl)
          have c43 : w4.cell? ⟨wr.heap.size, 3, none⟩ = some (.int .i64 x.n) := cell_of_blk (j := 3) hk4
          clear hk4
          go_wp2_with (fail)
          have TB := T4.left2 (R := fun e => e = .returned (.int .i64 (twinE l x.n))) fun F h => rtwin_any x.n h hg.small hg.bytes
          refine TB.mono ?_; rintro e wT ⟨rfl, TT⟩; clear TB T4 c43
          go_wp2_with (fail)
          have hgT : Good (k + 1) (twinL l x.n) := (hg.twin _).up
          generalize hlT : twinL l x.n = lT at *
          clear hlT
        rotate_left
        focus
          have TA := T.left1 (R := fun e => e = .returned (.int .i64 (ageN x.n l))) fun F h => age_calls _ _ _ F x.n h hg.small hages
          refine TA.mono ?_; rintro e w4 ⟨rfl, T4⟩; clear TA
          have hk4 := T4.kept (List.mem_singleton.2 rfl)
          have c43 : w4.cell? ⟨wr.heap.size, 3, none⟩ = some (.int .i64 x.n) := cell_of_blk (j := 3) hk4
          clear hk4
          go_wp2_with (fail)
          have TB := T4.left2 (R := fun e => e = .returned (.int .i64 (ageN x.n l))) fun F h => rage_calls _ _ _ F x.n h hg.small hages
          refine TB.mono ?_; rintro e wT ⟨rfl, TT⟩; clear TB T4 c43
          go_wp2_with (fail)
          have hgT : Good (k + 1) (ageL x.n l) := hg.tick _
          generalize hlT : ageL x.n l = lT at *
          clear hlT
        all_goals
          obtain ⟨F6, G6, X6⟩ := TT.forget
          refine (all_calls _ _ _ F6 X6.mail hgT.small).mono ?_; rintro e w6 ⟨va, rfl, own6, hva, hb6⟩
          have X7 := X6.below hb6
          have hvF : ∀ q, va.ownBlock = some q → ¬ F6 q ∧ ¬ G6 q ∧ w1.heap.size ≤ q := fun q hq => ⟨fun e => by have := X6.mail.bound q e; have := hva q hq; omega, fun e => by have := X6.ref.bound q e; have := hva q hq; omega, Nat.le_trans X6.bel.size (hva q hq)⟩
          obtain ⟨vL, uL, hXr⟩ := X7.ref
          have hcl := hXr.lt _ hXr.Fb
          obtain ⟨aL, cL, rfl, hcL⟩ := own_slice hXr.ownL
          obtain ⟨aa, ca, rfl, hca⟩ := own_slice own6
          have oL : w6.ownsRow 0 32 2 (.slice aL lT.length cL) (lT.map msOf).length (flatM (lT.map msOf)) := by simpa using hXr.ownL
          have c70 : w6.cell? ⟨w1.heap.size + 1, 0, none⟩ = some (.slice aL lT.length cL) := by have := cell_of_blk (j := 0) hXr.blk; simpa using this
          simp only [List.length_map] at hcL
          have hms := messages_calls w6 (.slice aa lT.length ca) (.slice aL lT.length cL) (lT.map msOf) (lT.map msOf) (by have := RowAt.of_own own6; simpa using this) (RowAt.of_own oL) (by simpa using hgT.small)
          rw [show sameM (lT.map msOf) (lT.map msOf) = true by simp [sameM]] at hms
          have HX7 := Lib.hid X7; clear X7 hXr X6 TT
          go_wp2_with (go_at_call 23; refine hms.mono ?_; rintro e w7 ⟨rfl, n7, rfl⟩)
          have X8 : PairX w1 (w6.drewN n7) w1.heap.size (w1.heap.size + 1) lT lT [] F6 G6 := HX7.out.below ⟨rfl, rfl, rfl, Nat.le_refl _, fun _ _ => rfl⟩
          have own8 : (w6.drewN n7).ownsRow 0 32 2 (.slice aa lT.length ca) lT.length (flatM (lT.map msOf)) := own6
          have c80 : (w6.drewN n7).cell? ⟨w1.heap.size + 1, 0, none⟩ = some (.slice aL lT.length cL) := c70
          clear HX7 hms c70 oL hcl own6
          generalize w6.drewN n7 = w8 at *
          have HX8 := Lib.hid X8; clear X8
          have hL := len_still HX8.out.mail
          go_quiet ((go_at_call 24; exact Calls.quiet_of_same (hL _)))
          clear hL
          go_wp2_with (fail)
          clear c80 hages hpi T c01 c02 c03 hdeed
          have h50 := hgT.len
          go_loopw [21] (fun vj wq => ∃ (j : Nat) (xs : List Value), vj = .int .i64 j ∧ j ≤ lT.length ∧ wq.ownsRow 0 32 2 (.slice aa lT.length ca) lT.length xs ∧ PairX w1 wq w1.heap.size (w1.heap.size + 1) lT lT [] F6 G6) (fun vj _ => lT.length - (intOf vj).toNat)
          case atStart => exact ⟨0, _, rfl, Nat.zero_le _, own8, HX8.out.below ⟨rfl, rfl, rfl, Nat.le_refl _, fun _ _ => rfl⟩⟩
          case round =>
            obtain ⟨j, xs, rfl, hj, hown, hX⟩ := hrel
            have HX := Lib.hid hX; clear hX
            clear own8 HX8
            by_cases hjl : j < lT.length
            · obtain ⟨g, cap', hvv, _, hgl⟩ := hown.form (by omega)
              simp only [Value.slice.injEq, true_and] at hvv
              obtain ⟨rfl, rfl⟩ := hvv
              have hxl := hown.1
              have d0 : ∃ z, wr.cell? ⟨g, j * 2, none⟩ = some z := ⟨xs[j * 2]'(by omega), by rw [hown.cellAt (j * 2) (by omega)]; simp⟩
              have d1 : ∃ z, wr.cell? ⟨g, j * 2 + 1, none⟩ = some z := ⟨xs[j * 2 + 1]'(by omega), by rw [hown.cellAt (j * 2 + 1) (by omega)]; simp⟩
              obtain ⟨z0, d0⟩ := d0
              obtain ⟨z1, d1⟩ := d1
              have f0 := hown.frozenAt (j * 2)
              have f1 := hown.frozenAt (j * 2 + 1)
              obtain ⟨v0, v1, v2⟩ := hvF g rfl
              have Hv := Lib.hid (And.intro v0 (And.intro v1 v2)); clear v0 v1 v2 hvF hva hxl
              go_wp2_with (fail)
              go_roundw
              case rel => exact ⟨j + 1, _, by go_num, by omega, ((hown.stored (j * 2) (.int .i64 9)).1.stored (j * 2 + 1) (.string ⟨#[]⟩)).1, (HX.out.poke Hv.out.1 Hv.out.2.1 Hv.out.2.2 _ _).poke Hv.out.1 Hv.out.2.1 Hv.out.2.2 _ _⟩
              case measure => simp [intOf]; omega
            · obtain rfl : j = lT.length := by omega
              clear hvF hva hjl hj
              go_wp2_with (fail)
              go_roundw
              case rel => exact ⟨k + 1, lT, by go_num, by omega, by omega, hgT, F6, G6, HX.out⟩
              case measure => simp [intOf]; omega
      · obtain rfl : k = ds.length := by omega
        have Hb := Lib.hid hb; clear hb O
        go_wp2
        go_ret
        exact ⟨rfl, Hb.out⟩
    · obtain rfl : k = 100 := by omega
      have Hb := Lib.hid hb; clear hb O
      go_wp2
      all_goals
        go_ret
        exact ⟨rfl, Hb.out⟩
end Go.Proofs.Ytdkebkalcelgpaa.Mail
