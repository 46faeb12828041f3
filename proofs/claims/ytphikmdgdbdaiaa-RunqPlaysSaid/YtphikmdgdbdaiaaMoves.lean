import Derived.Test.YtphikmdgdbdaiaaInv
/- The calls as plain functions, and the contracts over them. -/
namespace Go.Proofs.Ytphikmdgdbdaiaa
open Go.RowKit
set_option linter.unusedVariables false
set_option linter.unusedSimpArgs false
def inH (S : QS) (h : Int) : Prop := 0 ≤ h ∧ h < S.n
instance (S : QS) (h : Int) : Decidable (inH S h) := inferInstanceAs (Decidable (_ ∧ _))
def putS (S : QS) (h : Nat) (t : Int) : QS := (S.setQ h (S.Q h ++ [t])).setM (S.M.put t (.int .i64 h))
def putF (S : QS) (h t : Int) : Int × QS :=
  if ¬ inH S h ∨ t < 1 then (1, S) else if (S.M.get t).isSome then (5, S) else if 64 ≤ S.M.length then (2, S) else (0, putS S h.toNat t)
def wakeF (S : QS) (t : Int) : (Int × Int) × QS := ((if (putF S (sht S S.n) t).1 = 0 then (sht S S.n : Int) else 0, (putF S (sht S S.n) t).1), (putF S (sht S S.n) t).2)
def takeS (S : QS) (h : Nat) (x : Int) (r : List Int) : QS := ((S.setQ h r).setR h x).setM (S.M.put x (.int .i64 h))
def stealS (S : QS) (h : Nat) (t : Int) (l : List Int) : QS := ((S.setQ (lng S S.n) l).setR h t).setM (S.M.put t (.int .i64 h))
def nextF (S : QS) (h : Int) : (Int × Bool) × QS :=
  if ¬ inH S h ∨ 0 < S.R h.toNat then ((0, false), S) else
  match S.Q h.toNat with
  | x :: r => ((x, true), takeS S h.toNat x r)
  | [] => match (S.Q (lng S S.n)).getLast? with
    | none => ((0, false), S)
    | some t => ((t, true), stealS S h.toNat t (S.Q (lng S S.n)).dropLast)
def tickF (S : QS) (h : Int) : Bool × QS :=
  if ¬ inH S h ∨ S.R h.toNat = 0 ∨ S.Q h.toNat = [] then (false, S) else (true, (S.setQ h.toNat (S.Q h.toNat ++ [S.R h.toNat])).setR h.toNat 0)
def sleepF (S : QS) (h : Int) : (Int × Int) × QS :=
  if ¬ inH S h ∨ S.R h.toNat = 0 then ((0, 4), S) else ((S.R h.toNat, 0), (S.setR h.toNat 0).setM (S.M.del (S.R h.toNat)))
def whereF (S : QS) (t : Int) : Int × Bool := match S.M.get t with
  | some (.int _ h) => (h, true)
  | _ => (0, false)
def removeS (S : QS) (h : Nat) (t : Int) : QS := ((if S.R h = t then S.setR h 0 else S).setQ h (fl t (S.Q h))).setM (S.M.del t)
def removeF (S : QS) (t : Int) : Bool × QS := match S.M.get t with
  | some (.int _ h) => (true, removeS S h.toNat t)
  | _ => (false, S)
def runF (S : QS) (h : Int) : Int := if inH S h then S.R h.toNat else 0
def queF (S : QS) (h : Int) : List Int := if inH S h then S.Q h.toNat else []
/-- Where they lie, and what holds. -/
structure QOk (w : World) (a : QA) (S : QS) : Prop where
  r : QR w a S
  w : QW S
section
variable {w w' : World} {a : QA} {S : QS}
theorem QOk.below (H : QOk w a S) (hb : Below w.heap.size w w') : QOk w' a S := ⟨H.r.below hb, H.w⟩
theorem QOk.alloc (H : QOk w a S) (o : Obj) : QOk (w.alloc o) a S := ⟨H.r.alloc o, H.w⟩
theorem QOk.drew (H : QOk w a S) : QOk w.drew a S := ⟨H.r.drew, H.w⟩
theorem QOk.drewN (H : QOk w a S) (n : Nat) : QOk (w.drewN n) a S := ⟨H.r.drewN n, H.w⟩
theorem inH_nat {S : QS} {h : Int} (hh : inH S h) : ∃ k : Nat, h = k ∧ k < S.n := ⟨h.toNat, by have := hh.1; omega, by have := hh.1; have := hh.2; omega⟩
theorem same_mv {P : World → Prop} (h : w = w') : Mv w a w' a := h ▸ Mv.refl w a
theorem put_any (H : QOk w a S) (h t : Int) : Calls Try.prog 11 #[.pointer (some ⟨a.g, 0, none⟩), .int .i64 h, .int .i64 t] w fun e w' => ∃ a', e = .returned (.int .i64 (putF S h t).1) ∧ QOk w' a' (putF S h t).2 ∧ Mv w a w' a' := by
  by_cases hh : inH S h
  · obtain ⟨k, rfl, hk⟩ := inH_nat hh
    by_cases ht : t < 1
    · rw [show putF S k t = (1, S) by unfold putF; rw [if_pos (.inr ht)]]
      exact (put_low H.r k hk t ht).mono fun e w' q => ⟨a, q.1, q.2 ▸ H, q.2 ▸ Mv.refl _ _⟩
    · cases hv : S.M.get t with
      | some v =>
        rw [show putF S k t = (5, S) by unfold putF; rw [if_neg (by simp [hh, ht]), if_pos (by rw [hv]; rfl)]]
        exact (put_busy H.r k hk t ht v hv).mono fun e w' q => ⟨a, q.1, q.2 ▸ H, q.2 ▸ Mv.refl _ _⟩
      | none =>
        by_cases hf : 64 ≤ S.M.length
        · rw [show putF S k t = (2, S) by unfold putF; rw [if_neg (by simp [hh, ht]), if_neg (by rw [hv]; simp), if_pos hf]]
          exact (put_full H.r k hk t ht hv hf).mono fun e w' q => ⟨a, q.1, q.2 ▸ H, q.2 ▸ Mv.refl _ _⟩
        · rw [show putF S k t = (0, putS S k t) by unfold putF; rw [if_neg (by simp [hh, ht]), if_neg (by rw [hv]; simp), if_neg hf]; rfl]
          have h8 : k < 8 := by have := H.w.n8; omega
          refine (put_in H.r k hk t ht hv (by omega) (H.w.qlen' k h8)).mono fun e w' ⟨A2, c2, q1, q2, q3, q4⟩ => ⟨_, q1, ⟨q2, H.w.put hk (by omega) hv (by omega)⟩, ⟨q3, rfl, fun k q => QA.foot_setA h8 q4 q⟩⟩
  · rw [show putF S h t = (1, S) by unfold putF; rw [if_pos (.inl hh)]]
    exact (put_arg H.r h t hh).mono fun e w' q => ⟨a, q.1, q.2 ▸ H, q.2 ▸ Mv.refl _ _⟩
theorem wake_any' (H : QOk w a S) (t : Int) : Calls Try.prog 18 #[.pointer (some ⟨a.g, 0, none⟩), .int .i64 t] w fun e w' => ∃ a', e = .returned (.tuple #[.int .i64 (wakeF S t).1.1, .int .i64 (wakeF S t).1.2]) ∧ QOk w' a' (wakeF S t).2 ∧ Mv w a w' a' := by
  have hW : QW (putF S (sht S S.n) t).2 := by
    unfold putF
    split
    · exact H.w
    · rename_i h1
      split
      · exact H.w
      · rename_i h2
        split
        · exact H.w
        · rename_i h3
          simp only [not_or, Classical.not_not] at h1
          obtain ⟨k, hk, hk2⟩ := inH_nat h1.1
          have : (sht S S.n : Int).toNat = sht S S.n := by omega
          rw [this]
          exact H.w.put (by have := h1.1.2; omega) (by omega) (by simpa using h2) (by omega)
  exact (wake_any H.r H.w.n1 H.w.qlen' t (putF S (sht S S.n) t).1 (putF S (sht S S.n) t).2 ((put_any H _ t).mono fun e w' ⟨a', q1, q2, q3⟩ => ⟨a', q1, q2.r, q3⟩)).mono fun e w' ⟨a', q1, q2, q3⟩ => ⟨a', q1, ⟨q2, hW⟩, q3⟩
theorem QW.take (W : QW S) {h : Nat} (hh : h < S.n) (h0 : S.R h = 0) {x : Int} {r : List Int} (hq : S.Q h = x :: r) : QW (takeS S h x r) := by
  have hx : 1 ≤ x := W.pos h x (by rw [hq]; simp)
  have hxm : x ∈ hs S h := by unfold hs; rw [hq]; simp
  have hg := (W.mem hxm).2.2
  refine W.move rfl (fun k => ?_) (fun k t ht => ?_) (fun k hk => ?_) (fun t => ?_) (IM.nodup_put W.mnd _ _) ?_ (fun k => ?_)
  · simp only [takeS, QS.setM, QS.setR]; split
    · omega
    · exact W.r0 k
  · simp only [takeS, QS.setM, QS.setR, QS.setQ] at ht
    split at ht
    · exact W.pos h t (by rw [hq]; simp [ht])
    · exact W.pos k t ht
  · have : ¬ k = h := by omega
    simp only [takeS, QS.setM, QS.setR, QS.setQ, if_neg this]
    exact W.out k hk
  · show (S.M.put x _).get t = _
    rw [IM.get_put]; split
    · rename_i e; rw [e, hg]
    · rfl
  · show (S.M.put x _).length = _
    rw [IM.length_put, hg]; rfl
  · have : hs (takeS S h x r) k = hs S k := by
      unfold takeS
      rw [hs_setM, hs_setR]
      split
      · rename_i e; subst e
        rw [if_pos (by omega)]
        simp [QS.setQ, hs, h0, hq]
      · rename_i e; rw [hs_setQ, if_neg e]
    rw [this]
theorem QW.steal (W : QW S) {h : Nat} (hh : h < S.n) (h0 : S.R h = 0) (hq : S.Q h = []) {t : Int} {l : List Int} (hb : S.Q (lng S S.n) = l ++ [t]) : QW (stealS S h t l) := by
  generalize hbb : lng S S.n = b at *
  have ht : 1 ≤ t := W.pos b t (by rw [hb]; simp)
  have htm : t ∈ hs S b := by unfold hs; rw [hb]; simp
  have hg := (W.mem htm).2.2
  have hbn := (W.mem htm).1
  have hne : b ≠ h := fun e => by rw [e, hq] at hb; simp at hb
  have hsS : ∀ k, hs (stealS S h t l) k = if k = h then [t] else if k = b then (if 0 < S.R b then [S.R b] else []) ++ l else hs S k := fun k => by
    unfold stealS
    rw [hs_setM, hs_setR, hbb]
    by_cases e : k = h
    · subst e
      rw [if_pos rfl, if_pos rfl, if_pos (by omega)]
      simp [QS.setQ, Ne.symm hne, hq]
    · rw [if_neg e, if_neg e, hs_setQ]
      by_cases e2 : k = b
      · subst e2; rw [if_pos rfl]
      · rw [if_neg e2, if_neg e2]
  have hsb : hs S b = ((if 0 < S.R b then [S.R b] else []) ++ l) ++ [t] := by unfold hs; rw [hb]; simp
  have hsh : hs S h = [] := by unfold hs; rw [h0, hq]; simp
  have hndb := W.nd b
  rw [hsb] at hndb
  have hnt : t ∉ (if 0 < S.R b then [S.R b] else []) ++ l := fun hm => (List.nodup_append.1 hndb).2.2 t hm t (by simp) rfl
  refine ⟨W.n1, W.n8, fun k => ?_, fun k x hx => ?_, fun k hk => ?_, fun x v => ?_, fun k => ?_, IM.nodup_put W.mnd _ _, ?_, ?_⟩
  · simp only [stealS, QS.setM, QS.setR]; split
    · omega
    · exact W.r0 k
  · simp only [stealS, QS.setM, QS.setR, QS.setQ, hbb] at hx
    split at hx
    · exact W.pos b x (by rw [hb]; simp [hx])
    · exact W.pos k x hx
  · have e1 : ¬ k = h := by simp [stealS, QS.setM, QS.setR, QS.setQ] at hk; omega
    have e2 : ¬ k = b := by simp [stealS, QS.setM, QS.setR, QS.setQ] at hk; omega
    simp only [stealS, QS.setM, QS.setR, QS.setQ, hbb, if_neg e1, if_neg e2]
    exact W.out k hk
  · show (S.M.put t _).get x = some v ↔ ∃ k, k < S.n ∧ v = .int .i64 (k : Int) ∧ x ∈ hs _ k
    rw [IM.get_put]
    by_cases e : x = t
    · subst e
      rw [if_pos rfl]
      constructor
      · intro q; injection q with q
        exact ⟨h, hh, q.symm, by rw [hsS, if_pos rfl]; simp⟩
      · rintro ⟨k, q1, q2, q3⟩
        rw [hsS] at q3
        by_cases e2 : k = h
        · rw [q2, e2]
        · rw [if_neg e2] at q3
          by_cases e3 : k = b
          · rw [if_pos e3] at q3; exact absurd q3 hnt
          · rw [if_neg e3] at q3
            exact absurd (W.one q3 htm) e3
    · rw [if_neg e, W.key]
      have hiff : ∀ k, x ∈ hs (stealS S h t l) k ↔ x ∈ hs S k := fun k => by
        rw [hsS]
        by_cases e2 : k = h
        · subst e2; rw [if_pos rfl, hsh]; simp [e]
        · rw [if_neg e2]
          by_cases e3 : k = b
          · subst e3
            rw [if_pos rfl, hsb]
            simp [e]
          · rw [if_neg e3]
      constructor
      · rintro ⟨k, q1, q2, q3⟩; exact ⟨k, q1, q2, (hiff k).2 q3⟩
      · rintro ⟨k, q1, q2, q3⟩; exact ⟨k, q1, q2, (hiff k).1 q3⟩
  · rw [hsS]
    split
    · simp
    · split
      · exact (List.nodup_append.1 hndb).1
      · exact W.nd k
  · show (S.M.put t _).length = tot _
    rw [IM.length_put, hg]
    simp only [Option.isSome_some, if_true]
    have e1 := sumTo_upd (f := fun k => if k = h then (hs S k).length + 1 else (hs S k).length) (g := fun k => (hs S k).length) S.n hh (fun k _ hk => by simp only [if_neg hk])
    have e2 := sumTo_upd (f := fun k => (hs (stealS S h t l) k).length) (g := fun k => if k = h then (hs S k).length + 1 else (hs S k).length) S.n hbn (fun k _ hk => by
      simp only [hsS]
      by_cases e : k = h
      · subst e; rw [if_pos rfl, if_pos rfl, hsh]; rfl
      · rw [if_neg e, if_neg e, if_neg hk])
    simp only [if_pos, if_neg hne] at e1 e2
    rw [hsS b, if_neg hne, if_pos rfl] at e2
    have e3 : (hs S b).length = ((if 0 < S.R b then [S.R b] else []) ++ l).length + 1 := by rw [hsb]; simp; omega
    have hl := W.len
    unfold tot at hl ⊢
    show _ = sumTo (fun k => (hs (stealS S h t l) k).length) S.n
    omega
  · show (S.M.put t _).length ≤ 64
    rw [IM.length_put, hg]; exact W.cap
theorem next_any (H : QOk w a S) (h : Int) : Calls Try.prog 12 #[.pointer (some ⟨a.g, 0, none⟩), .int .i64 h] w fun e w' => ∃ a', e = .returned (.tuple #[.int .i64 (nextF S h).1.1, .bool (nextF S h).1.2]) ∧ QOk w' a' (nextF S h).2 ∧ Mv w a w' a' := by
  by_cases hh : inH S h
  · obtain ⟨k, rfl, hk⟩ := inH_nat hh
    have hkt : ((k : Int)).toNat = k := by omega
    by_cases hr : 0 < S.R k
    · rw [show nextF S k = ((0, false), S) by unfold nextF; rw [hkt, if_pos (.inr hr)]]
      exact (next_busy H.r k hk hr).mono fun e w' q => ⟨a, q.1, q.2 ▸ H, q.2 ▸ Mv.refl _ _⟩
    · have h0 : S.R k = 0 := by have := H.w.r0 k; omega
      have hn : ¬ (¬ inH S k ∨ 0 < S.R k) := by simp [hh, h0]
      cases hq : S.Q k with
      | cons x r =>
        rw [show nextF S k = ((x, true), takeS S k x r) by unfold nextF; rw [hkt, if_neg hn, hq]]
        refine (next_own H.r k hk h0 x r hq (H.w.pos k x (by rw [hq]; simp)) (by have := H.w.qlen k; omega)).mono fun e w' ⟨a', q1, q2, q3⟩ => ⟨a', q1, ⟨q2, H.w.take hk h0 hq⟩, q3⟩
      | nil =>
        rcases List.eq_nil_or_concat (S.Q (lng S S.n)) with hb | ⟨l, t, hb⟩
        · rw [show nextF S k = ((0, false), S) by unfold nextF; rw [hkt, if_neg hn, hq, hb]; rfl]
          exact (next_none H.r H.w.n1 k hk h0 hq H.w.qlen' hb).mono fun e w' ⟨q1, q2, q3⟩ => ⟨a, q1, ⟨q2, H.w⟩, q3⟩
        · rw [List.concat_eq_append] at hb
          rw [show nextF S k = ((t, true), stealS S k t l) by unfold nextF; rw [hkt, if_neg hn, hq, hb]; simp]
          exact (next_steal H.r H.w.n1 k hk h0 hq H.w.qlen' l t hb (H.w.pos _ t (by rw [hb]; simp))).mono fun e w' ⟨a', q1, q2, q3⟩ => ⟨a', q1, ⟨q2, H.w.steal hk h0 hq hb⟩, q3⟩
  · rw [show nextF S h = ((0, false), S) by unfold nextF; rw [if_pos (.inl hh)]]
    exact (next_out H.r h hh).mono fun e w' q => ⟨a, q.1, q.2 ▸ H, q.2 ▸ Mv.refl _ _⟩
theorem tick_any (H : QOk w a S) (h : Int) : Calls Try.prog 13 #[.pointer (some ⟨a.g, 0, none⟩), .int .i64 h] w fun e w' => ∃ a', e = .returned (.bool (tickF S h).1) ∧ QOk w' a' (tickF S h).2 ∧ Mv w a w' a' := by
  by_cases hh : inH S h
  · obtain ⟨k, rfl, hk⟩ := inH_nat hh
    have hkt : ((k : Int)).toNat = k := by omega
    by_cases h0 : S.R k = 0
    · rw [show tickF S k = (false, S) by unfold tickF; rw [hkt, if_pos (.inr (.inl h0))]]
      exact (tick_idle H.r k hk h0).mono fun e w' q => ⟨a, q.1, q.2 ▸ H, q.2 ▸ Mv.refl _ _⟩
    · by_cases hq : S.Q k = []
      · rw [show tickF S k = (false, S) by unfold tickF; rw [hkt, if_pos (.inr (.inr hq))]]
        exact (tick_alone H.r k hk h0 hq).mono fun e w' q => ⟨a, q.1, q.2 ▸ H, q.2 ▸ Mv.refl _ _⟩
      · rw [show tickF S k = (true, (S.setQ k (S.Q k ++ [S.R k])).setR k 0) by unfold tickF; rw [hkt, if_neg (by simp [hh, h0, hq])]]
        refine (tick_in H.r k hk h0 (List.length_pos_iff.2 hq) (by have := H.w.qlen k; omega)).mono fun e w' ⟨a', q1, q2, q3⟩ => ⟨a', q1, ⟨q2, ?_⟩, q3⟩
        have hr := H.w.r0 k
        refine H.w.move rfl (fun j => ?_) (fun j t ht => ?_) (fun j hj => ?_) (fun t => rfl) H.w.mnd rfl (fun j => ?_)
        · simp only [QS.setR, QS.setQ]; split
          · omega
          · exact H.w.r0 j
        · simp only [QS.setR, QS.setQ] at ht
          split at ht
          · rcases List.mem_append.1 ht with q | q
            · exact H.w.pos k t q
            · rw [List.mem_singleton] at q; omega
          · exact H.w.pos j t ht
        · have : ¬ j = k := by omega
          simp only [QS.setR, QS.setQ, if_neg this]
          exact H.w.out j hj
        · rw [hs_setR]
          split
          · rename_i e; subst e
            rw [if_neg (by omega)]
            simp only [QS.setQ, if_pos, List.nil_append, hs, if_pos (show 0 < S.R j by omega)]
            exact List.perm_append_comm
          · rename_i e; rw [hs_setQ, if_neg e]
  · rw [show tickF S h = (false, S) by unfold tickF; rw [if_pos (.inl hh)]]
    exact (tick_out H.r h hh).mono fun e w' q => ⟨a, q.1, q.2 ▸ H, q.2 ▸ Mv.refl _ _⟩
theorem sleep_any (H : QOk w a S) (h : Int) : Calls Try.prog 16 #[.pointer (some ⟨a.g, 0, none⟩), .int .i64 h] w fun e w' => ∃ a', e = .returned (.tuple #[.int .i64 (sleepF S h).1.1, .int .i64 (sleepF S h).1.2]) ∧ QOk w' a' (sleepF S h).2 ∧ Mv w a w' a' := by
  by_cases hh : inH S h
  · obtain ⟨k, rfl, hk⟩ := inH_nat hh
    have hkt : ((k : Int)).toNat = k := by omega
    by_cases h0 : S.R k = 0
    · rw [show sleepF S k = ((0, 4), S) by unfold sleepF; rw [hkt, if_pos (.inr h0)]]
      exact (sleep_idle H.r k hk h0).mono fun e w' q => ⟨a, q.1, q.2 ▸ H, q.2 ▸ Mv.refl _ _⟩
    · rw [show sleepF S k = ((S.R k, 0), (S.setR k 0).setM (S.M.del (S.R k))) by unfold sleepF; rw [hkt, if_neg (by simp [hh, h0])]]
      have hr := H.w.r0 k
      refine (sleep_in H.r k hk h0).mono fun e w' ⟨q1, q2, q3⟩ => ⟨a, q1, ⟨q2, ?_⟩, q3⟩
      have hm : S.R k ∈ hs S k := by unfold hs; rw [if_pos (by omega)]; simp
      refine H.w.drop hk hm rfl (fun j => ?_) (fun j t ht => H.w.pos j t ht) (fun j hj => ?_) rfl (fun j hj => ?_) ?_
      · simp only [QS.setM, QS.setR]; split
        · omega
        · exact H.w.r0 j
      · have : ¬ j = k := by omega
        simp only [QS.setM, QS.setR, if_neg this]
        exact H.w.out j hj
      · rw [hs_setM, hs_setR, if_neg hj]
      · rw [hs_setM, hs_setR, if_pos rfl, if_neg (by omega)]
        unfold hs; rw [if_pos (by omega)]; exact List.Perm.refl _
  · rw [show sleepF S h = ((0, 4), S) by unfold sleepF; rw [if_pos (.inl hh)]]
    exact (sleep_out H.r h hh).mono fun e w' q => ⟨a, q.1, q.2 ▸ H, q.2 ▸ Mv.refl _ _⟩
theorem perm_fl : ∀ (l : List Int) (t : Int), l.Nodup → t ∈ l → (t :: fl t l).Perm l
  | [], t, _, h => by cases h
  | x :: l, t, nd, h => by
    have nd2 := List.nodup_cons.1 nd
    by_cases e : x = t
    · subst e
      have : fl x (x :: l) = l := by
        have := fl_none nd2.1
        unfold fl at this ⊢
        rw [List.filter_cons, if_neg (by simp), this]
      rw [this]
    · have hm : t ∈ l := by rcases List.mem_cons.1 h with h | h; exact absurd h.symm e; exact h
      have : fl t (x :: l) = x :: fl t l := by unfold fl; rw [List.filter_cons, if_pos (by simpa using e)]
      rw [this]
      exact (List.Perm.swap x t _).trans ((perm_fl l t nd2.2 hm).cons x)
theorem fl_mem {t x : Int} {l : List Int} (h : x ∈ fl t l) : x ∈ l := (List.mem_filter.1 h).1
theorem QW.remove (W : QW S) {t : Int} {h : Nat} (ht : t ∈ hs S h) : QW (removeS S h t) := by
  obtain ⟨hh, h1, hg⟩ := W.mem ht
  have hnd := W.nd h
  refine W.drop hh ht ?_ (fun j => ?_) (fun j x hx => ?_) (fun j hj => ?_) ?_ (fun j hj => ?_) ?_
  · unfold removeS; split <;> rfl
  · unfold removeS; split
    · simp only [QS.setM, QS.setQ, QS.setR]; split
      · omega
      · exact W.r0 j
    · exact W.r0 j
  · have hx2 : x ∈ S.Q j := by
      unfold removeS at hx
      split at hx <;> simp only [QS.setM, QS.setQ, QS.setR] at hx <;> split at hx
      · rename_i e; rw [e]; exact fl_mem hx
      · exact hx
      · rename_i e; rw [e]; exact fl_mem hx
      · exact hx
    exact W.pos j x hx2
  · have : ¬ j = h := by omega
    unfold removeS; split <;> simp only [QS.setM, QS.setQ, QS.setR, if_neg this] <;> exact W.out j hj
  · unfold removeS; split <;> rfl
  · unfold removeS
    rw [hs_setM, hs_setQ, if_neg hj]
    split
    · rw [hs_setR, if_neg hj]
    · rfl
  · unfold removeS
    rw [hs_setM, hs_setQ, if_pos rfl]
    unfold hs at ht hnd
    split
    · rename_i e
      subst e
      have hp : 0 < S.R h := by omega
      rw [if_pos hp] at hnd ht
      have hno : S.R h ∉ S.Q h := fun hm => (List.nodup_append.1 hnd).2.2 (S.R h) (by simp) (S.R h) hm rfl
      simp only [QS.setR, if_pos]
      rw [if_neg (by omega), fl_none hno]
      unfold hs; rw [if_pos hp]; exact List.Perm.refl _
    · rename_i e
      have hm : t ∈ S.Q h := by
        rcases List.mem_append.1 ht with q | q
        · split at q
          · rw [List.mem_singleton] at q; exact absurd q.symm e
          · cases q
        · exact q
      have hp := perm_fl (S.Q h) t (List.nodup_append.1 hnd).2.1 hm
      unfold hs
      exact (List.perm_middle.symm).trans (hp.append_left _)
theorem remove_any (H : QOk w a S) (t : Int) : Calls Try.prog 19 #[.pointer (some ⟨a.g, 0, none⟩), .int .i64 t] w fun e w' => ∃ a', e = .returned (.bool (removeF S t).1) ∧ QOk w' a' (removeF S t).2 ∧ Mv w a w' a' := by
  cases hg : S.M.get t with
  | none =>
    rw [show removeF S t = (false, S) by unfold removeF; rw [hg]]
    exact (remove_none H.r t hg).mono fun e w' ⟨q1, q2, q3⟩ => ⟨a, q1, ⟨q2, H.w⟩, q3⟩
  | some v =>
    obtain ⟨h, h1, rfl, h3⟩ := (H.w.key t v).1 hg
    rw [show removeF S t = (true, removeS S h t) by unfold removeF; rw [hg]; simp]
    have h8 : h < 8 := by have := H.w.n8; omega
    have hq : (S.Q h).length ≤ 1000 := by have := H.w.qlen h; omega
    by_cases hr : S.R h = t
    · refine (remove_run H.r h h8 t hg hr hq).mono fun e w' ⟨a', q1, q2, q3⟩ => ⟨a', q1, ⟨?_, H.w.remove h3⟩, q3⟩
      unfold removeS; rw [if_pos hr]; exact q2
    · refine (remove_wait H.r h h8 t hg hr hq).mono fun e w' ⟨a', q1, q2, q3⟩ => ⟨a', q1, ⟨?_, H.w.remove h3⟩, q3⟩
      unfold removeS; rw [if_neg hr]; exact q2
theorem where_any (H : QOk w a S) (t : Int) : Calls Try.prog 17 #[.pointer (some ⟨a.g, 0, none⟩), .int .i64 t] w fun e w' => e = .returned (.tuple #[.int .i64 (whereF S t).1, .bool (whereF S t).2]) ∧ w = w' := by
  cases hg : S.M.get t with
  | none => rw [show whereF S t = (0, false) by unfold whereF; rw [hg]]; exact where_none H.r t hg
  | some v =>
    obtain ⟨h, h1, rfl, h3⟩ := (H.w.key t v).1 hg
    rw [show whereF S t = ((h : Int), true) by unfold whereF; rw [hg]]
    exact where_some H.r t _ hg
theorem run_any (H : QOk w a S) (h : Int) : Calls Try.prog 15 #[.pointer (some ⟨a.g, 0, none⟩), .int .i64 h] w fun e w' => e = .returned (.int .i64 (runF S h)) ∧ w = w' := by
  by_cases hh : inH S h
  · obtain ⟨k, rfl, hk⟩ := inH_nat hh
    rw [show runF S k = S.R k by unfold runF; rw [if_pos hh]; simp]
    exact running_yes H.r k hk
  · rw [show runF S h = 0 by unfold runF; rw [if_neg hh]]
    exact running_no H.r h hh
theorem idle_any (H : QOk w a S) : Calls Try.prog 23 #[.pointer (some ⟨a.g, 0, none⟩)] w fun e w' => e = .returned (.bool (decide (S.M.length = 0))) ∧ w = w' := by
  by_cases h : S.M.length = 0
  · rw [decide_eq_true h]; exact idle_yes H.r h
  · rw [decide_eq_false h]; exact idle_no H.r (by omega)
theorem que_any (H : QOk w a S) (h : Int) : Calls Try.prog 14 #[.pointer (some ⟨a.g, 0, none⟩), .int .i64 h] w fun e w' => ∃ A c, e = .returned (.slice A (queF S h).length c) ∧ Rw w' 3 1 A (queF S h).length c (iv (queF S h)) ∧ Below w.heap.size w w' ∧ (∀ k, blkOf A = some k → w.heap.size ≤ k) := by
  by_cases hh : inH S h
  · obtain ⟨k, rfl, hk⟩ := inH_nat hh
    rw [show queF S k = S.Q k by unfold queF; rw [if_pos hh]; simp]
    exact queue_in H.r k hk (by have := H.w.qlen k; omega)
  · rw [show queF S h = [] by unfold queF; rw [if_neg hh]]
    exact (queue_out H.r h hh).mono fun e w' q => ⟨none, 0, q.1, Rw.nil _ _ _, q.2 ▸ Below.refl _ _, by simp [blkOf]⟩
end
end Go.Proofs.Ytphikmdgdbdaiaa
