import Derived.Test.YtngjpokbjnjodaaSet3
import Derived.Deep.QuietTactic
import Derived.BigQuiet
import Derived.Deep.LoopGhost
import Derived.Deep.Cut
import Derived.Deep.CutRange
import Derived.Deep.DeepMust
/- Leaves. -/
namespace Go.Proofs.Ytngjpokbjnjodaa
open Go.RowKit Go.BigFrame
set_option linter.unusedVariables false
set_option linter.unusedSimpArgs false
attribute [local go_sem] szIs_lit row_at row_past row_alloc nf_alloc row_set nf_set row_cell nf_cell row_drew nf_drew row_drewN nf_drewN cell_setRow frozen_setRow nlt1 nlt2 nlt3 nlt4 nne1 nne2 nne3 nen1 nen2 nen3
attribute [local go_sem] by_get by_set
theorem intT : ElT Try.prog 41 3 1 8 (.int .i64 0) := ⟨by kernel_rfl, by kernel_rfl, rfl, by simp [Value.cells, Value.oneCell'], by decide⟩
theorem bs41 (x : Int) (w : World) : (Instr.buildSlice 41 1 #[(0, .int .i64 x)]).run Try.prog w = .ok (.slice (some ⟨w.heap.size, 0, none⟩) 1 1) (w.alloc (.cells #[.int .i64 x] 3)) := by
  simp [go_sem]
theorem clip_ok (A : Option Addr) (m c : Nat) (h : m ≤ c) (hA : A = none → m = 0 ∧ c = 0) (w : World) : Calls Try.prog 49 #[.slice A m c] w fun r w' => r = .returned (.slice A m m) ∧ w = w' := by
  cases A with
  | none =>
    obtain ⟨rfl, rfl⟩ := hA rfl
    go_enter Try.func49, Try.ntmps49
    go_wp2
    go_ret
    exact ⟨by first | rfl | simp, rfl⟩
  | some ad =>
    clear hA
    go_enter Try.func49, Try.ntmps49
    go_wp2
    go_ret
    exact ⟨by first | rfl | simp, rfl⟩
/-- The leaves, by their words. -/
def frL (L : Nat → Option Nat) (j : Nat) : List Nat := (List.range j).filterMap L
def nv (l : List Nat) : List Value := l.map fun (f : Nat) => Value.int .i64 (f : Int)
theorem frL_succ (L : Nat → Option Nat) (j : Nat) : frL L (j + 1) = frL L j ++ (L j).toList := by
  unfold frL
  rw [List.range_succ, List.filterMap_append]
  cases h : L j <;> simp [h]
theorem frL_len (L : Nat → Option Nat) (j : Nat) : (frL L j).length ≤ j := by
  unfold frL
  exact Nat.le_trans (List.length_filterMap_le _ _) (by simp)
section
variable {w w' : World} {g b F t root : Nat} {L : Nat → Option Nat} {E : Nat → Int}
theorem TS.leafk (h : TS w g b F t root L E) (k : Nat) (hk : k < 4) : Calls Try.prog 39 #[.pointer (some ⟨g, 0, none⟩), .int .i64 (root : Int), .int .i64 ((k : Int) * 64)] w fun e w' => e = .returned (.tuple #[.int .i64 (((L k).getD 0 : Nat) : Int), .bool (L k).isSome]) ∧ Below w.heap.size w w' := by
  obtain ⟨M, h1, h2⟩ := h.ex
  have := leaf_ok h1 root (k * 64) h.hr (by omega)
  have hh := h2.has (k * 64) (by omega)
  rw [show k * 64 / 64 = k by omega] at hh
  rw [hh, show ((k * 64 : Nat) : Int) = (k : Int) * 64 by omega] at this
  cases hl : L k with
  | none => rw [hl] at this; simpa using this
  | some f =>
    have h3 := h2.leaf (k * 64) (by omega) (f := f) (by rw [show k * 64 / 64 = k by omega]; exact hl)
    rw [hl, h3] at this
    simpa using this
set_option maxHeartbeats 2000000 in
set_option maxRecDepth 20000 in
theorem leaves_ok (h : TS w g b F t root L E) : Calls Try.prog 25 #[.pointer (some ⟨t, 0, none⟩)] w fun r w' => (∃ A c, r = .returned (.slice A (frL L 4).length (frL L 4).length) ∧ Rw w' 3 1 A (frL L 4).length c (nv (frL L 4)) ∧ ∀ k, blkOf A = some k → w.heap.size ≤ k) ∧ Below w.heap.size w w' := by
  have HM := Lib.hid (made_ok h.ht)
  have HT := Lib.hid h
  clear h
  go_enter Try.func25, Try.ntmps25
  go_wp2_with fail
  refine HM.out.mono ?_
  rintro r w' ⟨rfl, rfl⟩
  go_wp2_with fail
  go_loopg [3, 10] 4 (fun k o_ i_ wr => ∃ (j : Nat) (A : Option Addr) (c : Nat), i_ = .int .i64 (j : Int) ∧ o_ = .slice A (frL L j).length c ∧ k = 4 - j ∧ j ≤ 4 ∧ Rw wr 3 1 A (frL L j).length c (nv (frL L j)) ∧ Below w.heap.size w wr ∧ ∀ k, blkOf A = some k → w.heap.size ≤ k)
  case atStart => exact ⟨0, none, 0, rfl, rfl, rfl, by omega, Rw.nil _ _ _, Below.refl _ _, by simp [blkOf]⟩
  case round =>
    obtain ⟨j, A, c, rfl, rfl, hk, hj, hr, hb, hf⟩ := hrel
    have HK := Lib.hid hk
    have HR := Lib.hid hr
    have HB := Lib.hid hb
    have HF := Lib.hid hf
    clear hk hr hb hf
    by_cases hlt : j < 4
    · obtain ⟨TT, hTT⟩ : ∃ TT : World → Prop, TT = fun u => Below wr.heap.size wr u := ⟨_, rfl⟩
      have HTT := Lib.hid (show ∀ u, TT u → TS u g b F t root L E ∧ Below wr.heap.size wr u from fun u h => by rw [hTT] at h; exact ⟨(HT.out.below HB.out).below h, h⟩)
      have HTB := Lib.hid (show ∀ u, Below wr.heap.size wr u → TT u from fun u h => by rw [hTT]; exact h)
      have k0 : TT wr.drew := HTB.out _ (Below.refl _ _).drew
      have HFS := Lib.hid (frL_succ L j)
      have HFL := Lib.hid (frL_len L j)
      obtain ⟨m, hm⟩ : ∃ m, (frL L j).length = m := ⟨_, rfl⟩
      have HMM := Lib.hid hm
      rw [hm]
      obtain ⟨lk, hlk⟩ : ∃ lk, L j = lk := ⟨_, rfl⟩
      have HLK := Lib.hid hlk
      clear hTT hm hlk
      cases lk with
      | none =>
        go_wp2_with fail
        refine wp_theta [10] [10] (fun i v => i = 10 → v = .tuple #[.int .i64 0, .bool false]) (fun ρ D u => TT u) (TT) ?_ ?_ ?_ ?_ ?_ ?_ ?_ ?_ ?_ ?_
        · kernel_rfl
        · kernel_rfl
        · kernel_rfl
        · kernel_rfl
        · kernel_rfl
        · kernel_rfl
        · exact fun i hi => ⟨_, fun _ => rfl⟩
        · exact k0
        · exact fun ρ D u h => h
        · intro θ hθ
          simp only [SegsT, List.take_succ_cons, List.take_zero, List.drop_succ_cons, List.drop_zero, Nat.sub_zero, Nat.reduceSub, Nat.reduceAdd, List.drop_nil, List.take_nil]
          haveI i1 : Nonempty (Wd TT) := ⟨⟨_, k0⟩⟩
          have l0 : ∀ s : Wd TT, s.val.cell? ⟨t, 0, none⟩ = some (.pointer (some ⟨g, 0, none⟩)) := fun s => ((HTT.out _ s.prop).1.ht.all.2.2.1 0).trans rfl
          have l1 : ∀ s : Wd TT, s.val.cell? ⟨t, 1, none⟩ = some (.int .i64 (root : Int)) := fun s => ((HTT.out _ s.prop).1.ht.all.2.2.1 1).trans rfl
          clear k0
          have t10 := hθ 10 (by decide) rfl
          repeat (go_big_quiet_step (fail))
          refine wpQuiet_nil ?_
          rw [if_pos (by decide)]
          refine ⟨thOK_call [] [] 39 _ _ (by kernel_rfl) rfl (by kernel_rfl) #[.pointer (some ⟨g, 0, none⟩), .int .i64 (root : Int), .int .i64 ((j : Int) * 64)] (by kernel_rfl) (by kernel_rfl) (fun ρ D u hq hK => ?_), ?_⟩
          · obtain ⟨g1, g2⟩ := HTT.out u hK
            have hwk := g1.leafk j hlt
            rw [HLK.out] at hwk
            refine hwk.mono ?_
            rintro r u' ⟨rfl, hb⟩
            exact ⟨_, rfl, fun _ => rfl, HTB.out _ (g2.trans (Below.mono hb g2.size))⟩
          rw [t10]
          try go_frame
          repeat (go_big_quiet_step (fail))
          refine wpQuiet_nil ?_
          intro u hK
          have HBU := Lib.hid (HTT.out u hK).2
          clear hK t10 l0 l1 i1 hθ HTT HTB
          go_wp2_with fail
          go_roundg (4 - (j + 1))
          case measure => have := HK.out; omega
          case rel =>
            have e : frL L (j + 1) = frL L j := by rw [HFS.out, HLK.out]; simp
            exact ⟨j + 1, A, c, by go_num, by rw [e, HMM.out], rfl, by omega, by rw [e]; exact HR.out.below HBU.out, HB.out.trans (Below.mono HBU.out HB.out.size), HF.out⟩
      | some f =>
        go_wp2_with fail
        refine wp_theta [10] [10] (fun i v => i = 10 → v = .tuple #[.int .i64 (f : Int), .bool true]) (fun ρ D u => TT u) (TT) ?_ ?_ ?_ ?_ ?_ ?_ ?_ ?_ ?_ ?_
        · kernel_rfl
        · kernel_rfl
        · kernel_rfl
        · kernel_rfl
        · kernel_rfl
        · kernel_rfl
        · exact fun i hi => ⟨_, fun _ => rfl⟩
        · exact k0
        · exact fun ρ D u h => h
        · intro θ hθ
          simp only [SegsT, List.take_succ_cons, List.take_zero, List.drop_succ_cons, List.drop_zero, Nat.sub_zero, Nat.reduceSub, Nat.reduceAdd, List.drop_nil, List.take_nil]
          haveI i1 : Nonempty (Wd TT) := ⟨⟨_, k0⟩⟩
          have l0 : ∀ s : Wd TT, s.val.cell? ⟨t, 0, none⟩ = some (.pointer (some ⟨g, 0, none⟩)) := fun s => ((HTT.out _ s.prop).1.ht.all.2.2.1 0).trans rfl
          have l1 : ∀ s : Wd TT, s.val.cell? ⟨t, 1, none⟩ = some (.int .i64 (root : Int)) := fun s => ((HTT.out _ s.prop).1.ht.all.2.2.1 1).trans rfl
          clear k0
          have t10 := hθ 10 (by decide) rfl
          repeat (go_big_quiet_step (fail))
          refine wpQuiet_nil ?_
          rw [if_pos (by decide)]
          refine ⟨thOK_call [] [] 39 _ _ (by kernel_rfl) rfl (by kernel_rfl) #[.pointer (some ⟨g, 0, none⟩), .int .i64 (root : Int), .int .i64 ((j : Int) * 64)] (by kernel_rfl) (by kernel_rfl) (fun ρ D u hq hK => ?_), ?_⟩
          · obtain ⟨g1, g2⟩ := HTT.out u hK
            have hwk := g1.leafk j hlt
            rw [HLK.out] at hwk
            refine hwk.mono ?_
            rintro r u' ⟨rfl, hb⟩
            exact ⟨_, rfl, fun _ => rfl, HTB.out _ (g2.trans (Below.mono hb g2.size))⟩
          rw [t10]
          try go_frame
          repeat (go_big_quiet_step (fail))
          refine wpQuiet_nil ?_
          intro u hK
          have HBU := Lib.hid (HTT.out u hK).2
          clear hK t10 l0 l1 i1 hθ HTT HTB
          have hfl := HFL.out
          have hmm := HMM.out
          have hbb : Below wr.heap.size wr (u.alloc (.cells #[.int .i64 (f : Int)] 3)) := HBU.out.alloc HBU.out.size _
          obtain ⟨A2, c2, w2, e1, e2, e3, e4⟩ := rw_append (P := Try.prog) intT 41 (HR.out.below hbb) (some ⟨u.heap.size, 0, none⟩) 1 1 [.int .i64 (f : Int)] rfl (Rd.of_cells (fun j u hu => by
            cases j with
            | zero => simp at hu; subst hu; simp [go_sem]
            | succ j => simp at hu) (by simp [Value.oneCell'])) (by intro e; cases e) (by unfold maxLen; omega) (by omega)
          have hbs := bs41 (f : Int)
          rw [hmm] at e1 e2
          have HE1 := Lib.hid e1
          have HE := Lib.hid (And.intro e2 (And.intro hbb (And.intro e3 e4)))
          clear e1 e2 e3 e4 hbb hfl hmm
          go_wp2_with (at_builtin; (refine wpList_run rfl (s := Builtin.append_ #[41, 41] 41 #[.slice A m c, .slice (some ⟨u.heap.size, 0, none⟩) 1 1]) (by kernel_rfl) HE1.out ?_))
          go_roundg (4 - (j + 1))
          case measure => have := HK.out; omega
          case rel =>
            have e : frL L (j + 1) = frL L j ++ [f] := by rw [HFS.out, HLK.out]; simp
            have el : (frL L (j + 1)).length = m + 1 := by rw [e, List.length_append, HMM.out]; rfl
            have ev : nv (frL L (j + 1)) = nv (frL L j) ++ [.int .i64 (f : Int)] := by rw [e]; simp [nv]
            obtain ⟨x2, x1, x3, x4⟩ := HE.out
            have hsz := HB.out.size
            refine ⟨j + 1, A2, c2, by go_num, by rw [el], rfl, by omega, by rw [el, ev]; exact x2, HB.out.trans ((Below.mono x1 hsz).trans (x3.below (fun k hk q => ?_) (by have := x1.size; omega))), fun k q => ?_⟩
            · have := HF.out k q; omega
            · rcases x4 with e | e
              · exact HF.out k (e ▸ q)
              · rw [e] at q; injection q with q; have := x1.size; omega
    · obtain rfl : j = 4 := by omega
      have HCL := Lib.hid (clip_ok A (frL L 4).length c HR.out.le.1 (by
        rcases HR.out.addr with ⟨q1, q2, q3⟩ | ⟨bb, q⟩
        · exact fun _ => ⟨q2, q3⟩
        · intro e; rw [e] at q; cases q) wr)
      go_wp2_with fail
      refine HCL.out.mono ?_
      rintro r w' ⟨rfl, rfl⟩
      go_wp2
      go_ret
      exact ⟨⟨A, c, by first | rfl | simp, HR.out, HF.out⟩, HB.out⟩
end
end Go.Proofs.Ytngjpokbjnjodaa
