import Derived.Test.YtajhpfmfoolcjaaSec
/- The writes that stand beside a disk: one round of the law. -/
namespace Go.Proofs.Ytajhpfmfoolcjaa
open Go.RowKit Go.BigFrame
set_option linter.unusedVariables false
set_option linter.unusedSimpArgs false
attribute [local go_sem] szIs_lit row_at row_past row_alloc nf_alloc row_set nf_set row_cell nf_cell row_drew nf_drew row_drewN nf_drewN cell_setRow frozen_setRow nlt1 nlt2 nlt3 nlt4 nne1 nne2 nne3 nen1 nen2 nen3
theorem fb_byte (c : Int) (i : Nat) : 0 ≤ fb c i ∧ fb c i < 256 := by unfold fb; omega
theorem fil_byte (n : Nat) (c : Int) : ByteOK (fil n c) := fun x hx => by
  obtain ⟨i, _, rfl⟩ := List.mem_map.1 hx
  exact fb_byte c i
/-- A disk, and the writes that were not flushed. -/
structure LT (w0 wr : World) (g cnt : Nat) (a : DA) (S : DS) (A : Option Addr) (c : Nat) (ws : List PW) : Prop where
  ow : OW w0 wr a S
  ga : a.g = g
  cnt : S.cnt = cnt
  lim : S.lim = false
  wsr : WS wr A c ws
  cor : core ws = core S.pend
  own : ∀ k, wsAll A ws k → w0.heap.size ≤ k
  dj : ∀ k, wsAll A ws k → ¬ a.all S k
  b1 : ByteOK S.plat
  b2 : ∀ p ∈ S.pend, ByteOK p.bs
section
variable {w0 wr w' : World} {g cnt : Nat} {a : DA} {S : DS} {A : Option Addr} {c : Nat} {ws : List PW}
theorem LT.below (h : LT w0 wr g cnt a S A c ws) (hb : Below wr.heap.size wr w') : LT w0 w' g cnt a S A c ws := ⟨h.ow.below hb, h.ga, h.cnt, h.lim, h.wsr.below hb, h.cor, h.own, h.dj, h.b1, h.b2⟩
theorem LT.gd (h : LT w0 wr g cnt a S A c ws) : GD S := ⟨h.ow.dr.size, fun p hp => ⟨h.ow.dr.ins p hp, h.ow.dr.bsl hp⟩, h.b1, h.b2⟩
/-- The disk has moved; the writes are as they were. -/
theorem LT.ws_mv (h : LT w0 wr g cnt a S A c ws) {a' : DA} {S' : DS} (hm : Mv wr a S w' a' S') : WS w' A c ws ∧ ∀ k, wsAll A ws k → ¬ a'.all S' k :=
  ⟨h.wsr.ch hm.ch fun k q q2 => h.dj k q (.inl q2), fun k q q2 => by
    rcases hm.all k q2 with q3 | q3
    · exact h.dj k q q3
    · have := h.wsr.lt q; omega⟩
theorem foldl_byte : ∀ (l : List PW) (q : List Int), ByteOK q → (∀ p ∈ l, ByteOK p.bs) → ByteOK (l.foldl lay1 q)
  | [], q, h, _ => h
  | p :: l, q, h, h2 => foldl_byte l _ (lay_byte h (h2 p (by simp))) fun x hx => h2 x (by simp [hx])
theorem LT.flush (h : LT w0 wr g cnt a S A c ws) (hl : S.pend.length ≤ 2 ^ 42) : Calls Try.prog 12 #[.pointer (some ⟨g, 0, none⟩)] wr fun e w' => (∃ v, e = .returned v) ∧ ∃ a' S', LT w0 w' g cnt a' S' none 0 [] ∧ S'.pend.length = 0 := by
  have hf := flush_on h.ow.dr (off0 h.lim) hl
  rw [h.ga, dec0 h.lim] at hf
  refine hf.mono ?_
  rintro e w' ⟨a', rfl, q1, q2⟩
  exact ⟨⟨_, rfl⟩, a', S.flush, ⟨h.ow.mv q1 q2, q2.g.trans h.ga, h.cnt, h.lim, ⟨Rw.nil _ _ _, by simp⟩, rfl, by simp [wsAll, blkOf], by simp [wsAll, blkOf], foldl_byte _ _ h.b1 h.b2, by simp [DS.flush]⟩, rfl⟩
theorem LT.crash (h : LT w0 wr g cnt a S A c ws) (Ak : Option Addr) (len ck : Nat) (o : Nat → TornV) (ht : Tn wr Ak len o) (hA : 0 < len → ∀ k, blkOf Ak = some k → k < w0.heap.size) (hc : len ≤ 2 ^ 43) (hlen : S.pend.length ≤ 2 ^ 42) : Calls Try.prog 13 #[.pointer (some ⟨g, 0, none⟩), .slice Ak len ck] wr fun e w' => (e = .returned (.int .i64 1) ∧ LT w0 w' g cnt a S A c ws ∧ Below wr.heap.size wr w') ∨ (e = .returned (.int .i64 0) ∧ ∃ a', OW w0 w' a' (S.crash len o) ∧ a'.g = g ∧ WS w' A c ws ∧ Mv wr a S w' a' (S.crash len o)) := by
  have hcr := crash_ok h.ow.dr Ak len ck o ht (fun h0 k e q => by have := hA h0 k e; have := h.ow.own k (.inl q); omega) hc hlen
  rw [h.ga] at hcr
  refine hcr.mono ?_
  rintro e w' (⟨rfl, h1, h2⟩ | ⟨rfl, h1, a', h2, h3⟩)
  · exact .inl ⟨rfl, h.below h2, h2⟩
  · exact .inr ⟨rfl, a', h.ow.mv h2 h3, h3.g.trans h.ga, (h.ws_mv h3).1, h3⟩
/-- What a write to the disk leaves. -/
structure LW (w0 : World) (g cnt nn : Nat) (l : List Int) (S : DS) (A : Option Addr) (c : Nat) (ws : List PW) (u : World) : Prop where
  ex : ∃ a' p, p.n = nn ∧ p.bs = l ∧ OW w0 u a' (S.push p) ∧ a'.g = g ∧ ∀ k, wsAll A ws k → ¬ a'.all (S.push p) k
  wsr : WS u A c ws
theorem LW.below {nn : Nat} {l : List Int} {u u' : World} (h : LW w0 g cnt nn l S A c ws u) (hb : Below u.heap.size u u') : LW w0 g cnt nn l S A c ws u' := by
  obtain ⟨a', p, h1, h2, h3, h4, h5⟩ := h.ex
  exact ⟨⟨a', p, h1, h2, h3.below hb, h4, h5⟩, h.wsr.below hb⟩
theorem LT.write (h : LT w0 wr g cnt a S A c ws) (nn : Nat) (hn : nn < cnt) (hl : S.pend.length ≤ 4398046511103) (x : Nat) (l : List Int) (hx : Rw wr 5 1 (some ⟨x, 0, none⟩) 512 512 (bv l)) (hxf : ¬ a.all S x) : Calls Try.prog 10 #[.pointer (some ⟨g, 0, none⟩), .int .i64 (nn : Int), .slice (some ⟨x, 0, none⟩) 512 512] wr fun e w' => e = .returned (.int .i64 0) ∧ LW w0 g cnt nn l S A c ws w' ∧ wr.heap.size ≤ w'.heap.size ∧ ∀ k, k < wr.heap.size → ¬ a.foot k → w'.heap[k]? = wr.heap[k]? := by
  have hw := h.ow.write nn x 512 l (by rw [h.cnt]; exact hn) (off0 h.lim) hx (fun q => hxf (.inl q)) hl
  rw [h.ga, dec0 h.lim] at hw
  refine hw.mono ?_
  rintro e w' ⟨rfl, a', p, p1, p2, p3, p4, p5⟩
  obtain ⟨g1, g2⟩ := h.ws_mv p5
  exact ⟨rfl, ⟨⟨a', p, p1, p2, p3, p4, g2⟩, g1⟩, p5.ch.size, fun k hk hf => p5.ch.block k hk hf⟩
/-- The write is written down. -/
theorem LW.app (h0 : LT w0 wr g cnt a S A c ws) {nn : Nat} {l : List Int} (hlb : ByteOK l) {u : World} (h : LW w0 g cnt nn l S A c ws u) (hl : ws.length ≤ 4398046511103) (x y : Nat) (hx : Rw u 5 1 (some ⟨x, 0, none⟩) 512 512 (bv l)) (hxo : w0.heap.size ≤ x) (hxa : blkOf A ≠ some x) (hxd : ∃ v, Below v.heap.size v u ∧ LW w0 g cnt nn l S A c ws v ∧ v.heap.size ≤ x) (hy0 : u.cell? ⟨y, 0, none⟩ = some (.int .i64 (nn : Int))) (hy1 : u.cell? ⟨y, 1, none⟩ = some (.slice (some ⟨x, 0, none⟩) 512 512)) :
    ∃ A2 c2 u', (Builtin.append_ #[42, 42] 42 #[.slice A ws.length c, .slice (some ⟨y, 0, none⟩) 1 1]).run Try.prog u = .ok (.slice A2 (ws.length + 1) c2) u' ∧ (∃ a' p, LT w0 u' g cnt a' (S.push p) A2 c2 (ws ++ [⟨nn, x, 512, l⟩])) ∧ Ch (fun k => blkOf A = some k) u u' := by
  obtain ⟨A2, c2, u', e1, e2, e3, e4⟩ := rw_append (P := Try.prog) swT 42 h.wsr.row (some ⟨y, 0, none⟩) 1 1 (PW.cells ⟨nn, x, 512, l⟩) rfl (Rd.of_cells (fun j v hv => by
    match j with
    | 0 => simp [PW.cells] at hv; subst hv; exact hy0
    | 1 => simp [PW.cells, PW.val] at hv; subst hv; exact hy1
    | j + 2 => simp [PW.cells] at hv) (by simp [PW.cells, PW.val, Value.oneCell'])) (by intro e; cases e) (by unfold maxLen; omega) (by omega)
  obtain ⟨v, hvb, hvw, hvx⟩ := hxd
  obtain ⟨a', p, p1, p2, p3, p4, p5⟩ := hvw.ex
  have hdj := p5
  have hdu := p3.below hvb
  have hfoot : ∀ k, a'.all (S.push p) k → blkOf A ≠ some k := fun k q e => p5 k (.inl e) q
  have how : OW w0 u' a' (S.push p) := by
    refine ⟨hdu.dr.ch e3 (fun k q e => hfoot k q e), ?_, hdu.own⟩
    exact hdu.bl.trans (e3.below (fun k hk q => by have := h0.own k (.inl q); omega) hdu.bl.size)
  refine ⟨A2, c2, u', e1, ⟨a', p, how, p4, h0.cnt, h0.lim, ⟨?_, fun q hq => ?_⟩, ?_, fun k q => ?_, fun k q q2 => ?_, h0.b1, fun q hq => ?_⟩, e3⟩
  · rw [pcells_app]
    simpa [pcells] using e2
  · rcases List.mem_append.1 hq with hq | hq
    · by_cases hqa : blkOf A = some q.b
      · exfalso
        -- a write's bytes never lie in the row
        have h1 := (h.wsr.rows q hq).row
        obtain ⟨b, hb⟩ := h.wsr.row.some_ (by cases ws with | nil => cases hq | cons _ _ => simp)
        have h2 := h.wsr.row
        rw [hb] at h2 hqa
        have hbq : b = q.b := by injection hqa
        obtain ⟨c1, g1, _⟩ := h1
        obtain ⟨c2, g2, _⟩ := h2.row
        rw [hbq, g1] at g2
        injection g2 with g2
        simp at g2
      · exact (h.wsr.rows q hq).ch e3 fun k e e2 => hqa (by injection e with e; simp only at e; rw [e]; exact e2)
    · obtain rfl : q = ⟨nn, x, 512, l⟩ := by simpa using hq
      exact hx.ch e3 fun k e e2 => hxa (by injection e with e; simp only at e; rw [e]; exact e2)
  · unfold core DS.push at *
    simp only [List.map_append, List.map_cons, List.map_nil]
    rw [show ws.map (fun p => (p.n, p.bs)) = S.pend.map (fun p => (p.n, p.bs)) from h0.cor, p1, p2]
  · rcases q with q | ⟨r, hr, rfl⟩
    · rcases e4 with e | e
      · exact h0.own k (.inl (e ▸ q))
      · rw [e] at q; injection q with q; have := hdu.bl.size; omega
    · rcases List.mem_append.1 hr with hr | hr
      · exact h0.own _ (.inr ⟨r, hr, rfl⟩)
      · obtain rfl : r = ⟨nn, x, 512, l⟩ := by simpa using hr
        exact hxo
  · have hlt := p3.dr.foot_lt q2
    rcases q with q | ⟨r, hr, rfl⟩
    · rcases e4 with e | e
      · exact hdj k (.inl (e ▸ q)) q2
      · rw [e] at q; injection q with q; have := hvb.size; omega
    · rcases List.mem_append.1 hr with hr | hr
      · exact hdj _ (.inr ⟨r, hr, rfl⟩) q2
      · obtain rfl : r = ⟨nn, x, 512, l⟩ := by simpa using hr
        simp only at hlt; omega
  · rcases List.mem_append.1 hq with hq | hq
    · exact h0.b2 q hq
    · obtain rfl : q = p := by simpa using hq
      rw [p2]; exact hlb
end
end Go.Proofs.Ytajhpfmfoolcjaa
