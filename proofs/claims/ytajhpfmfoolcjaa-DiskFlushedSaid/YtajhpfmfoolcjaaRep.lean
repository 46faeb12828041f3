import Derived.Test.YtajhpfmfoolcjaaBase
import Derived.Test.YtajhpfmfoolcjaaFree
import Derived.Test.YtajhpfmfoolcjaaFreeT
import Derived.Test.YtajhpfmfoolcjaaHpRow
import Derived.Laws.CopyRow
import Derived.Laws.BytesString
/- Bytes; a disk: where it lies, what it says. -/
namespace Go.Proofs.Ytajhpfmfoolcjaa
open Go.RowKit Go.BigFrame
set_option linter.unusedVariables false
set_option linter.unusedSimpArgs false
attribute [local go_sem] szIs_lit row_at row_past row_alloc nf_alloc row_set nf_set row_cell nf_cell row_drew nf_drew row_drewN nf_drewN cell_setRow frozen_setRow nlt1 nlt2 nlt3 nlt4 nne1 nne2 nne3 nen1 nen2 nen3
theorem byT : ElT Try.prog 33 5 1 1 (.int .u8 0) := ⟨by kernel_rfl, by kernel_rfl, rfl, by simp [Value.cells, Value.oneCell'], by decide⟩
theorem intT : ElT Try.prog 39 3 1 8 (.int .i64 0) := ⟨by kernel_rfl, by kernel_rfl, rfl, by simp [Value.cells, Value.oneCell'], by decide⟩
theorem pwT : ElT Try.prog 63 69 2 32 (.agg #[.int .i64 0, .slice none 0 0]) := ⟨by kernel_rfl, by kernel_rfl, rfl, by simp [Value.cells, Value.oneCell'], by decide⟩
theorem ty62 : Try.prog.underlying 62 = some (.map 3 33) := by kernel_rfl
theorem ty3 : Try.prog.underlying 3 = some (.int .i64) := by kernel_rfl
theorem zero33 (w : World) : (zeroValue 33).run Try.prog w = .ok (.slice none 0 0) w := by kernel_rfl
def bv (l : List Int) : List Value := l.map (.int .u8)
def iv (l : List Int) : List Value := l.map (.int .i64)
theorem bv_len (l : List Int) : (bv l).length = l.length := by simp [bv]
theorem iv_len (l : List Int) : (iv l).length = l.length := by simp [iv]
theorem bv_one (l : List Int) : ∀ v ∈ bv l, v.oneCell' = true := by
  intro v hv; obtain ⟨x, _, rfl⟩ := List.mem_map.1 hv; rfl
theorem iv_one (l : List Int) : ∀ v ∈ iv l, v.oneCell' = true := by
  intro v hv; obtain ⟨x, _, rfl⟩ := List.mem_map.1 hv; rfl
theorem bv_get {l : List Int} {j : Nat} {x : Int} (h : l[j]? = some x) : (bv l)[j]? = some (.int .u8 x) := by simp [bv, h]
theorem iv_get {l : List Int} {j : Nat} {x : Int} (h : l[j]? = some x) : (iv l)[j]? = some (.int .i64 x) := by simp [iv, h]
theorem ret_int {k : IntKind} {a b : Int} (h : a = b) : Ending.returned (.int k a) = .returned (.int k b) := by rw [h]
theorem ret_bool {a b : Bool} (h : a = b) : Ending.returned (.bool a) = .returned (.bool b) := by rw [h]
theorem add_at (b j : Nat) : (⟨b, 0, none⟩ : Addr).add j = ⟨b, j, none⟩ := by rw [add_plain, Nat.zero_add]
/-! Strings of bytes -/
def str (l : List Int) : ByteArray := l.foldl (fun r n => r.push (UInt8.ofNat n.toNat)) ByteArray.empty
theorem conv9 (w : World) (A : Option Addr) (n c : Nat) (l : List Int) (h : Rw w 5 1 A n c (bv l)) : (convert 33 9 (.slice A n c)).run Try.prog w = .ok (.string (str l)) w := by
  have hl := h.len
  rw [bv_len, Nat.mul_one] at hl
  rw [run_convert_bytes_string w 33 9 5 A n c byT.ht (by kernel_rfl) (by kernel_rfl)]
  rcases h.addr with ⟨rfl, rfl, rfl⟩ | ⟨b, rfl⟩
  · obtain rfl : l = [] := by cases l; rfl; simp at hl
    simp [Conv.bytesToString, str]
  · have := run_loadCells_list (P := Try.prog) w ⟨b, 0, none⟩ (bv l) (fun j v hv => by
      have hj := (List.getElem?_eq_some_iff.1 hv).1
      rw [bv_len] at hj
      rw [add_at, h.cell j (by omega)]; exact hv)
    rw [bv_len, hl] at this
    exact run_bytesToString (P := Try.prog) w ⟨b, 0, none⟩ n c l this
/-! The first k of some bytes laid over others -/
def lay (l : List Int) (o : Nat) (x : List Int) : List Int := l.take o ++ x ++ l.drop (o + x.length)
theorem lay_len (l : List Int) (o : Nat) (x : List Int) (h : o + x.length ≤ l.length) : (lay l o x).length = l.length := by
  unfold lay; simp; omega
theorem lay_get (l : List Int) (o : Nat) (x : List Int) (h : o + x.length ≤ l.length) (j : Nat) : (lay l o x)[j]? = if o ≤ j ∧ j < o + x.length then x[j - o]? else l[j]? := by
  unfold lay
  rw [List.append_assoc]
  by_cases h1 : j < o
  · rw [List.getElem?_append_left (by simp; omega), List.getElem?_take_of_lt h1, if_neg (by omega)]
  · rw [List.getElem?_append_right (by simp; omega)]
    have e : (l.take o).length = o := by simp; omega
    rw [e]
    by_cases h2 : j < o + x.length
    · rw [List.getElem?_append_left (by omega), if_pos (by omega)]
    · rw [List.getElem?_append_right (by omega), if_neg (by omega), List.getElem?_drop]
      congr 1; omega
theorem bv_lay (l : List Int) (o : Nat) (x : List Int) : (bv l).take o ++ bv x ++ (bv l).drop (o + (bv x).length) = bv (lay l o x) := by
  simp [bv, lay, List.map_take, List.map_drop]
theorem ch_setRow {w : World} {g : Nat} (cs : Array Value) : Ch (· = g) w (w.setRow g cs) := by
  refine ⟨by simp, by simp, by simp, by simp, fun k _ hk => ?_⟩
  exact setRow_other w g k cs hk
theorem splice_take (L X : List Value) (o n : Nat) (h : o + X.length ≤ n) (hn : n ≤ L.length) : (L.take o ++ X ++ L.drop (o + X.length)).take n = (L.take n).take o ++ X ++ (L.take n).drop (o + X.length) := by
  have e : (L.take o).length = o := by rw [List.length_take]; omega
  rw [List.append_assoc, List.append_assoc, List.take_append, e, List.take_append, List.take_of_length_le (by omega), List.take_of_length_le (by omega : X.length ≤ n - o), List.take_take, Nat.min_eq_left (by omega), List.drop_take, show n - o - X.length = n - (o + X.length) by omega]
theorem rw_copy (w : World) (ty : TypeId) (g o dl dc : Nat) (ad : Addr) (sl sc : Nat) {n c : Nat} {l x : List Int} (h : Rw w 5 1 (some ⟨g, 0, none⟩) n c (bv l)) (hx : x.length = sl) (hd : sl ≤ dl) (hs : ∀ (j : Nat) v, (bv x)[j]? = some v → w.cell? (ad.add j) = some v) (hfit : o + sl ≤ l.length) :
    ∃ w', (Builtin.copy_ #[33, 33] ty #[.slice (some ⟨g, o, none⟩) dl dc, .slice (some ad) sl sc]).run Try.prog w = .ok (.int .i64 sl) w'
      ∧ Rw w' 5 1 (some ⟨g, 0, none⟩) n c (bv (lay l o x)) ∧ Ch (· = g) w w' ∧ w'.heap.size = w.heap.size := by
  obtain ⟨cur, h1, h2, h3, h4, h5⟩ := h.row
  have hl := h.len
  rw [bv_len, Nat.mul_one] at hl
  rw [Nat.mul_one] at h4 h5
  have hxl : (bv x).length = sl := by rw [bv_len, hx]
  have hr := run_copy_row (P := Try.prog) w 33 33 ty 5 g o dl dc ad sl sc cur 5 (bv x) byT.ht (by kernel_rfl) h1 (by rw [hxl]; exact (Nat.min_eq_left hd).symm) hs (by rw [hxl]; omega) (bv_one x)
  have hnew := setRow_heap w g cur (cur.toList.take o ++ bv x ++ cur.toList.drop (o + (bv x).length)).toArray 5 (0, 0) h1
  have hcl : cur.toList.length = c := by rw [Array.length_toList]; exact h4
  refine ⟨_, ?_, Rw.of_row hnew h2 h3 (by simp; omega) ?_, ch_setRow _, by simp⟩
  · rw [hxl] at hr ⊢; exact hr
  · rw [Nat.mul_one, ← bv_lay, ← h5]
    exact splice_take _ _ _ _ (by omega) (by omega)
/-! A disk -/
/-- A pending write: its sector, where its bytes lie, what they are. -/
structure PW where
  n : Nat
  b : Nat
  c : Nat
  bs : List Int
def PW.val (p : PW) : Value := .slice (some ⟨p.b, 0, none⟩) 512 p.c
def PW.cells (p : PW) : List Value := [.int .i64 (p.n : Int), p.val]
def pcells (l : List PW) : List Value := l.flatMap PW.cells
def lastOf (l : List PW) (n : Int) : Option PW := l.reverse.find? fun p => (p.n : Int) == n
theorem lastOf_snoc (l : List PW) (p : PW) (n : Int) : lastOf (l ++ [p]) n = if n = p.n then some p else lastOf l n := by
  unfold lastOf
  rw [List.reverse_append]
  by_cases h : n = p.n
  · subst h; simp
  · have h1 : ((p.n : Int) == n) = false := by simpa using fun e : (p.n : Int) = n => h e.symm
    simp [h, h1]
theorem lastOf_mem {l : List PW} {n : Int} {p : PW} (h : lastOf l n = some p) : p ∈ l ∧ (p.n : Int) = n := by
  unfold lastOf at h
  refine ⟨by have := List.mem_of_find?_eq_some h; simpa using this, by have := List.find?_some h; simpa using this⟩
theorem pcells_len (l : List PW) : (pcells l).length = l.length * 2 := by
  induction l with
  | nil => rfl
  | cons p l ih => simp only [pcells, List.flatMap_cons, List.length_append, List.length_cons] at ih ⊢; rw [ih]; simp [PW.cells]; omega
theorem pcells_app (l m : List PW) : pcells (l ++ m) = pcells l ++ pcells m := by simp [pcells]
theorem pcells_one (l : List PW) : ∀ v ∈ pcells l, v.oneCell' = true := by
  intro v hv
  obtain ⟨p, _, hp⟩ := List.mem_flatMap.1 hv
  simp [PW.cells, PW.val] at hp
  rcases hp with rfl | rfl <;> rfl
theorem pcells_get : ∀ {l : List PW} {j : Nat} {p : PW}, l[j]? = some p → (pcells l)[j * 2]? = some (.int .i64 (p.n : Int)) ∧ (pcells l)[j * 2 + 1]? = some p.val
  | q :: l, 0, p, h => by
    simp at h; subst h
    exact ⟨rfl, rfl⟩
  | q :: l, j + 1, p, h => by
    have ih := pcells_get (l := l) (j := j) (p := p) (by simpa using h)
    have e : pcells (q :: l) = PW.cells q ++ pcells l := by simp [pcells]
    have hl : (PW.cells q).length = 2 := rfl
    rw [e, show (j + 1) * 2 = 2 + j * 2 by omega, show 2 + j * 2 + 1 = 2 + (j * 2 + 1) by omega, List.getElem?_append_right (by rw [hl]; omega), List.getElem?_append_right (by rw [hl]; omega), hl]
    simpa using ih
/-- Where a disk lies, and what it counts. -/
structure DA where
  g : Nat
  pb : Nat
  pc : Nat
  m : Nat
  A : Option Addr
  c : Nat
  rd : Int
  wr : Int
  fl : Int
structure DS where
  cnt : Nat
  plat : List Int
  pend : List PW
  lim : Bool
  left : Int
def dcells (a : DA) (S : DS) : Array Value := #[.slice (some ⟨a.pb, 0, none⟩) S.plat.length a.pc, .slice a.A S.pend.length a.c, .map (some a.m), .bool S.lim, .int .i64 S.left, .int .i64 a.rd, .int .i64 a.wr, .int .i64 a.fl]
structure DR (w : World) (a : DA) (S : DS) : Prop where
  blk : Blk w a.g (dcells a S)
  plat : Rw w 5 1 (some ⟨a.pb, 0, none⟩) S.plat.length a.pc (bv S.plat)
  pend : Rw w 69 2 a.A S.pend.length a.c (pcells S.pend)
  map : ∃ M, IMap w a.m M ∧ ∀ n, M.get n = (lastOf S.pend n).map PW.val
  rows : ∀ p ∈ S.pend, Rw w 5 1 (some ⟨p.b, 0, none⟩) 512 p.c (bv p.bs)
  size : S.plat.length = S.cnt * 512
  c1 : 1 ≤ S.cnt ∧ S.cnt ≤ 4096
  ins : ∀ p ∈ S.pend, p.n < S.cnt
  lft : 0 ≤ S.left ∧ S.left ≤ 9223372036854775807
  gp : a.g ≠ a.pb ∧ a.g ≠ a.m ∧ a.pb ≠ a.m
  ag : blkOf a.A ≠ some a.g ∧ blkOf a.A ≠ some a.pb ∧ blkOf a.A ≠ some a.m
  ar : ∀ p ∈ S.pend, p.b ≠ a.g ∧ p.b ≠ a.pb ∧ p.b ≠ a.m ∧ blkOf a.A ≠ some p.b
def DA.foot (a : DA) (k : Nat) : Prop := k = a.g ∨ k = a.pb ∨ k = a.m ∨ blkOf a.A = some k
def DA.all (a : DA) (S : DS) (k : Nat) : Prop := a.foot k ∨ ∃ p ∈ S.pend, p.b = k
theorem Blk.ch {F : Nat → Prop} {w w' : World} {g : Nat} {c : Array Value} (h : Blk w g c) (hc : Ch F w w') (hg : ¬ F g) : Blk w' g c :=
  ⟨(row_heap (hc.block g h.lt hg)).trans h.1, (nf_heap (hc.block g h.lt hg)).trans h.2⟩
theorem Blk.same {w w' : World} {g : Nat} {c : Array Value} (h : Blk w g c) (e : w'.heap[g]? = w.heap[g]?) : Blk w' g c := ⟨(row_heap e).trans h.1, (nf_heap e).trans h.2⟩
section
variable {w w' : World} {a : DA} {S : DS}
theorem DR.foot_lt (h : DR w a S) {k : Nat} (hk : a.all S k) : k < w.heap.size := by
  rcases hk with (rfl | rfl | rfl | hk) | ⟨p, hp, rfl⟩
  · exact h.blk.lt
  · exact h.plat.blt
  · obtain ⟨M, hm, _⟩ := h.map; exact hm.lt
  · exact h.pend.lt k hk
  · exact (h.rows p hp).blt
theorem DR.same (h : DR w a S) (hk : ∀ k, a.all S k → w'.heap[k]? = w.heap[k]?) : DR w' a S := by
  obtain ⟨M, hm, hM⟩ := h.map
  exact ⟨h.blk.same (hk _ (.inl (.inl rfl))), h.plat.heap fun k e => hk k (.inl (.inr (.inl (by injection e with e; exact e.symm)))), h.pend.heap fun k e => hk k (.inl (.inr (.inr (.inr e)))), ⟨M, hm.heap (hk _ (.inl (.inr (.inr (.inl rfl))))), hM⟩,
    fun p hp => (h.rows p hp).heap fun k e => hk k (.inr ⟨p, hp, by injection e⟩), h.size, h.c1, h.ins, h.lft, h.gp, h.ag, h.ar⟩
theorem DR.ch {F : Nat → Prop} (h : DR w a S) (hc : Ch F w w') (hF : ∀ k, a.all S k → ¬ F k) : DR w' a S := h.same fun k hk => hc.block k (h.foot_lt hk) (hF k hk)
theorem DR.below (h : DR w a S) (hb : Below w.heap.size w w') : DR w' a S := h.same fun k hk => hb.block k (h.foot_lt hk)
theorem DR.alloc (h : DR w a S) (o : Obj) : DR (w.alloc o) a S := h.below ((Below.refl _ _).alloc (Nat.le_refl _) _)
theorem DR.drew (h : DR w a S) : DR w.drew a S := h.same fun _ _ => rfl
theorem DR.drewN (h : DR w a S) (n : Nat) : DR (w.drewN n) a S := h.same fun _ _ => rfl
theorem DR.cell (h : DR w a S) (i : Nat) : w.cell? ⟨a.g, i, none⟩ = (dcells a S)[i]? := h.blk.all.2.2.1 i
theorem DR.cells (h : DR w a S) : w.cell? ⟨a.g, 0, none⟩ = some (.slice (some ⟨a.pb, 0, none⟩) (S.cnt * 512) a.pc) ∧ w.cell? ⟨a.g, 1, none⟩ = some (.slice a.A S.pend.length a.c) ∧ w.cell? ⟨a.g, 2, none⟩ = some (.map (some a.m)) ∧ w.cell? ⟨a.g, 3, none⟩ = some (.bool S.lim) ∧ w.cell? ⟨a.g, 4, none⟩ = some (.int .i64 S.left) ∧ w.cell? ⟨a.g, 5, none⟩ = some (.int .i64 a.rd) ∧ w.cell? ⟨a.g, 6, none⟩ = some (.int .i64 a.wr) ∧ w.cell? ⟨a.g, 7, none⟩ = some (.int .i64 a.fl) ∧ ∀ i, w.frozen? ⟨a.g, i, none⟩ = false :=
  ⟨(h.cell 0).trans (by rw [← h.size]; rfl), (h.cell 1).trans rfl, (h.cell 2).trans rfl, (h.cell 3).trans rfl, (h.cell 4).trans rfl, (h.cell 5).trans rfl, (h.cell 6).trans rfl, (h.cell 7).trans rfl, h.blk.all.2.2.2⟩
/-- What a call leaves: it has changed the disk's own blocks alone; where they lie now. -/
structure Mv (w : World) (a : DA) (S : DS) (w' : World) (a' : DA) (S' : DS) : Prop where
  ch : Ch a.foot w w'
  g : a'.g = a.g
  foot : ∀ k, a'.foot k → a.foot k ∨ w.heap.size ≤ k
  all : ∀ k, a'.all S' k → a.all S k ∨ w.heap.size ≤ k
theorem Mv.refl (w : World) (a : DA) (S : DS) : Mv w a S w a S := ⟨Ch.refl _ _, rfl, fun _ h => .inl h, fun _ h => .inl h⟩
theorem Mv.of_below {w w' : World} (a : DA) (S : DS) (h : Below w.heap.size w w') : Mv w a S w' a S := ⟨Ch.of_below h, rfl, fun _ h => .inl h, fun _ h => .inl h⟩
theorem Mv.trans {w1 w2 : World} {a1 a2 : DA} {S1 S2 : DS} (h : Mv w a S w1 a1 S1) (h2 : Mv w1 a1 S1 w2 a2 S2) : Mv w a S w2 a2 S2 :=
  ⟨h.ch.trans h2.ch fun k hk q => (h.foot k q).elim id fun q => by omega, h2.g.trans h.g, fun k q => (h2.foot k q).elim (h.foot k) fun q => .inr (Nat.le_trans h.ch.size q), fun k q => (h2.all k q).elim (h.all k) fun q => .inr (Nat.le_trans h.ch.size q)⟩
/-- A field's cell is another. -/
theorem DR.fld (h : DR w a S) (i : Nat) (v : Value) (a' : DA) (S' : DS) (hc : (dcells a S).setIfInBounds i v = dcells a' S') (ea : a'.g = a.g ∧ a'.pb = a.pb ∧ a'.pc = a.pc ∧ a'.m = a.m ∧ a'.A = a.A ∧ a'.c = a.c) (eS : S'.cnt = S.cnt ∧ S'.plat = S.plat ∧ S'.pend = S.pend) (hl : 0 ≤ S'.left ∧ S'.left ≤ 9223372036854775807) :
    DR (w.setCell ⟨a.g, i, none⟩ v) a' S' ∧ Mv w a S (w.setCell ⟨a.g, i, none⟩ v) a' S' := by
  obtain ⟨g, pb, pc, m, A, c, rd, wr, fl⟩ := a
  obtain ⟨g', pb', pc', m', A', c', rd', wr', fl'⟩ := a'
  obtain ⟨cnt, plat, pend, lim, left⟩ := S
  obtain ⟨cnt', plat', pend', lim', left'⟩ := S'
  simp only at ea eS hl ⊢
  obtain ⟨rfl, rfl, rfl, rfl, rfl, rfl⟩ := ea
  obtain ⟨rfl, rfl, rfl⟩ := eS
  have hst : ∀ k, k ≠ g' → (w.setCell ⟨g', i, none⟩ v).heap[k]? = w.heap[k]? := fun k hk => heap_setCell_other w ⟨g', i, none⟩ k _ hk
  obtain ⟨M, hm, hM⟩ := h.map
  refine ⟨⟨by have := h.blk.put i v; rwa [hc] at this, h.plat.heap fun k e => hst k fun e2 => h.gp.1 (by injection e with e; simp only at e e2 ⊢; omega), h.pend.heap fun k e => hst k fun e2 => h.ag.1 (by rw [← e2]; exact e), ⟨M, hm.heap (hst _ h.gp.2.1.symm), hM⟩,
    fun p hp => (h.rows p hp).heap fun k e => hst k fun e2 => (h.ar p hp).1 (by injection e with e; simp only at e e2 ⊢; omega), h.size, h.c1, h.ins, hl, h.gp, h.ag, h.ar⟩, (Ch.refl _ _).cell _ _ fun _ => .inl rfl, rfl, fun k q => .inl q, fun k q => .inl q⟩
end
end Go.Proofs.Ytajhpfmfoolcjaa
