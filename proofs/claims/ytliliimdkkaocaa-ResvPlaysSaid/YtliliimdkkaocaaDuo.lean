import Derived.Test.YtliliimdkkaocaaSame
/- Two gates, side by side. -/
namespace Go.Proofs.Ytliliimdkkaocaa
open Go.RowKit
set_option linter.unusedVariables false
set_option linter.unusedSimpArgs false
structure Duo (w0 wr : World) (g x : Nat) (A B : Option Addr) (c d : Nat) (n live : Int) (L : List Seat) (live2 : Int) (L2 : List Seat) : Prop where
  wf : WF n live L
  wf2 : WF n live2 L2
  ga : GateA wr w0.heap.size g A c n live L
  gx : GateA wr w0.heap.size x B d n live2 L2
  dj : ∀ k, foot g A k → ¬ foot x B k
  bl : Below w0.heap.size w0 wr
section
variable {w0 wr w' : World} {g x c d c' d' : Nat} {A A' B B' : Option Addr} {n live live' live2 : Int} {L L' L2 : List Seat}
theorem Duo.left (h : Duo w0 wr g x A B c d n live L live2 L2) (h1 : WF n live' L') (h2 : GateA w' w0.heap.size g A' c' n live' L') (h3 : FrG wr w' g A A') : Duo w0 w' g x A' B c' d n live' L' live2 L2 :=
  ⟨h1, h.wf2, h2, h.gx.kept fun k hk => h3.block k (h.gx.foot_lt hk).2 (fun hf => h.dj k hf hk), fun k hf hk => by
    rcases hf with rfl | hf
    · exact h.dj k (.inl rfl) hk
    · rcases h3.new k hf with h4 | h4
      · exact h.dj k (.inr h4) hk
      · have := (h.gx.foot_lt hk).2; omega, h.bl.trans (h3.below h.ga h.bl.size)⟩
theorem Duo.right (h : Duo w0 wr g x A B c d n live L live2 L2) (h1 : WF n live' L') (h2 : GateA w' w0.heap.size x B' d' n live' L') (h3 : FrG wr w' x B B') : Duo w0 w' g x A B' c d' n live L live' L' :=
  ⟨h.wf, h1, h.ga.kept fun k hk => h3.block k (h.ga.foot_lt hk).2 (fun hf => h.dj k hk hf), h2, fun k hf hk => by
    rcases hk with rfl | hk
    · exact h.dj k hf (.inl rfl)
    · rcases h3.new k hk with h4 | h4
      · exact h.dj k hf (.inr h4)
      · have := (h.ga.foot_lt hf).2; omega, h.bl.trans (h3.below h.gx h.bl.size)⟩
theorem Duo.look (h : Duo w0 wr g x A B c d n live L live2 L2) (hb : Below wr.heap.size wr w') : Duo w0 w' g x A B c d n live L live2 L2 :=
  ⟨h.wf, h.wf2, h.ga.below hb, h.gx.below hb, h.dj, h.bl.trans (hb.mono h.bl.size)⟩
theorem Duo.alloc (h : Duo w0 wr g x A B c d n live L live2 L2) (o : Obj) : Duo w0 (wr.alloc o) g x A B c d n live L live2 L2 := h.look ((Below.refl _ _).alloc (Nat.le_refl _) _)
theorem Duo.drew (h : Duo w0 wr g x A B c d n live L live2 L2) : Duo w0 wr.drew g x A B c d n live L live2 L2 := h.look (Below.drew (Below.refl _ _))
end
end Go.Proofs.Ytliliimdkkaocaa
