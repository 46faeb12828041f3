import Derived.Test.YtliliimdkkaocaaDel
import Derived.StillTailTactics
import Derived.Outline
/- slices.Delete of one seat: the walk. -/
namespace Go.Proofs.Ytliliimdkkaocaa
open Go.RowKit
set_option linter.unusedVariables false
set_option linter.unusedSimpArgs false
attribute [local go_sem] szIs_lit row_at row_past row_alloc nf_alloc row_set nf_set row_cell nf_cell row_drew nf_drew row_drewN nf_drewN cell_setRow frozen_setRow nlt1 nlt2 nlt3 nlt4 nne1 nne2 nne3 nen1 nen2 nen3

section
variable {ops : Array Oper} {Q : Exit → Act → World → Prop} {rest : List Oper} {o : Oper} {a : Act} {w : World}
theorem wpList_app2 (hgd : o.guard = none) (s x : Operand) (t : TypeId) (ho : o.op = .call { callee := .builtin .append, args := #[s, x], argTypes := #[t, t] }) (v u : Value) (hs : a.eval s = v) (hx : a.eval x = u) (R : Value) (w' : World) (hrun : (Builtin.append_ #[t, t] o.type #[v, u]).run Try.prog w = .ok R w')
    (h : wpList Try.prog ops Q rest (a.put o.dst R) w') : wpList Try.prog ops Q (o :: rest) a w := by
  refine wpList_plain hgd fun K hK => ?_
  unfold Oper.wp
  simp [execOp, ho, resolve, invoke, builtin, hs, hx, hrun, Result.andThen]
  exact hK _ _ h
theorem wpList_clear (hgd : o.guard = none) (s : Operand) (t : TypeId) (ho : o.op = .call { callee := .builtin .clear, args := #[s], argTypes := #[t] }) (v : Value) (hs : a.eval s = v) (w' : World) (hrun : (Builtin.clear_ #[t] o.type #[v]).run Try.prog w = .ok (.tuple #[]) w')
    (h : wpList Try.prog ops Q rest (a.put o.dst (.tuple #[])) w') : wpList Try.prog ops Q (o :: rest) a w := by
  refine wpList_plain hgd fun K hK => ?_
  unfold Oper.wp
  simp [execOp, ho, resolve, invoke, builtin, hs, hrun, Result.andThen]
  exact hK _ _ h
end
set_option maxRecDepth 20000 in
set_option maxHeartbeats 2000000 in
theorem delete_ok (base b c : Nat) (L : List Seat) (w : World) (i m : Nat) (h : SeatsAt w base (some ⟨b, 0, none⟩) c L) (hN : L.length = i + 1 + m) (h64 : L.length ≤ 64) : Calls Try.prog 27 #[.slice (some ⟨b, 0, none⟩) L.length c, .int .i64 (i : Int), .int .i64 ((i : Int) + 1)] w fun e w' => e = .returned (.slice (some ⟨b, 0, none⟩) (L.eraseIdx i).length c) ∧ SeatsAt w' base (some ⟨b, 0, none⟩) c (L.eraseIdx i) ∧ w.grownBy w' (some b) := by
  have hc := h.le.1
  have hc2 := h.le.2
  have HS := Lib.hid h
  have hlen : (L.eraseIdx i).length = i + m := by rw [List.length_eraseIdx, if_pos (by omega)]; omega
  have HL := Lib.hid hlen
  have HN := Lib.hid hN
  have hi1 : i + 1 ≤ L.length := by omega
  clear h hlen hN
  go_enter Try.func27, Try.ntmps27
  go_wp2_with fail
  have hN := HN.out
  have cA := cut36h ⟨b, 0, none⟩ L.length c i (by omega)
  obtain ⟨A2, cB, hA, hA2⟩ := cut36l b L.length c (i + 1) (by omega)
  have cB : ∀ w : World, (Instr.slice 36 (.slice (some ⟨b, 0, none⟩) L.length c) (some (.int .i64 ((i : Int) + 1))) none none).run Try.prog w = .ok (.slice A2 (L.length - (i + 1)) (c - (i + 1))) w := fun w => by
    have := cB w; rwa [show (((i + 1 : Nat) : Int)) = (i : Int) + 1 by omega] at this
  have em : L.length - (i + 1) = m := by omega
  rw [em] at cB
  obtain ⟨w1, r1, S1, g1, f1⟩ := del_app (w := w.drew) (c := c) (L := L) (HS.out.heap fun _ _ => rfl) i m hN 36 (c - (i + 1)) A2 (fun h => hA (by omega) (by omega)) hA2
  have hbl := (HS.out.lt b rfl).2
  have HR := Lib.hid r1
  have cD : (Builtin.clear_ #[36] 0 #[.slice (some ⟨b, (i + m) * 4, none⟩) (L.length - (i + m)) (c - (i + m))]).run Try.prog w1 = .ok (.tuple #[]) (w1.setCells b ((i + m) * 4) zcs) := by
    rw [show L.length - (i + m) = 1 by omega]
    exact run_clear1 w1 b ((i + m) * 4) (c - (i + m)) 0 (fun j hj => by
    obtain ⟨_, cur, hg, h1, h2, h3, _⟩ := S1.row
    rw [(cell_of_row w1 b ((i + m) * 4 + j) cur 39 _ hg)]
    simp; omega) (fun j hj => f1 _)
  have hpast := SeatsAt.past zcs w1 ((i + m) * 4) S1 (by rw [HL.out]; omega)
  have HP := Lib.hid hpast
  have HG1 := Lib.hid g1
  have hm1 : i + m ≤ L.length := by omega
  clear r1 S1 g1 f1 hpast
  clear hN
  have hic : i ≤ c := by omega
  go_still_tail 6, (by kernel_rfl)
  change wpList _ _ _ _ _ w.drew
  refine wpList_app2 rfl (.tmp 22) (.tmp 25) 36 rfl (.slice (some ⟨b, 0, none⟩) i c) (.slice A2 m (c - (i + 1))) rfl rfl _ w1 HR.out ?_
  go_wp2_with fail
  go_wp2_with fail
  go_ret
  refine ⟨by rw [HL.out]; first | rfl | simp, HP.out.1, ?_⟩
  exact ⟨HP.out.2.os.trans HG1.out.os, HP.out.2.tape.trans HG1.out.tape, HP.out.2.output.trans HG1.out.output, Nat.le_trans HG1.out.size HP.out.2.size, fun k hk hne => (HP.out.2.block k (Nat.lt_of_lt_of_le hk HG1.out.size) hne).trans (HG1.out.block k hk hne)⟩
end Go.Proofs.Ytliliimdkkaocaa
