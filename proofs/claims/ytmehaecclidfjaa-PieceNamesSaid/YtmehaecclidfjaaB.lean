import Derived.Test.YtmehaecclidfjaaA
import Derived.Test.YtmehaecclidfjaaHmG10
set_option linter.unusedSimpArgs false
set_option linter.unusedVariables false
namespace Go.Proofs.Ytmehaecclidfjaa
open Go Go.Hm

/-- Nothing else is touched. -/
def Fr (H H' : Heap) (S : List Nat) : Prop := H.length ≤ H'.length ∧ ∀ c, c < H.length → c ∉ S → H'[c]? = H[c]?
def Cut (H : Heap) (b : Nat) (fs cm : List UInt8) (l r : List Nd) (k a : Nat) (p : Nat × Nat) (H' : Heap) : Prop :=
  ∃ l1 l2, p = loc b l1 ∧ TB H' b fs cm (l1 ++ (l2 ++ r)) k ∧ alls fs cm l1 = (alls fs cm l).take a ∧ alls fs cm (l1 ++ l2) = alls fs cm l ∧
    Fr H H' (b :: (l ++ r).map (·.b)) ∧ ∀ n ∈ l1 ++ l2, n.b ∈ l.map (·.b) ∨ H.length ≤ n.b
theorem txt_take {fs cm : List UInt8} {n : Nd} {a : Nat} (h : NdOk fs cm n) (h2 : a < n.t - n.f) : txt fs cm ⟨n.b, n.c, n.f, n.f + a⟩ = (txt fs cm n).take a := by
  simp only [txt, srcN]
  rw [List.take_drop, List.take_take, Nat.min_eq_left (by omega)]
theorem txt_drop {fs cm : List UInt8} {n : Nd} {b a : Nat} : txt fs cm ⟨b, n.c, n.f + a, n.t⟩ = (txt fs cm n).drop a := by
  simp only [txt, srcN]
  rw [List.drop_drop]
theorem cut_here {H : Heap} {b : Nat} {fs cm : List UInt8} {pre mid r : List Nd} {k a : Nat} (h : TB H b fs cm (pre ++ mid ++ r) k) (ha : a = (alls fs cm pre).length) : Cut H b fs cm (pre ++ mid) r k a (loc b pre) H := by
  refine ⟨pre, mid, rfl, by rw [← List.append_assoc]; exact h, ?_, rfl, ⟨Nat.le_refl _, fun _ _ _ => rfl⟩, fun n hn => .inl (List.mem_map_of_mem hn)⟩
  rw [alls_app, ha, List.take_left]
theorem cut_split {H : Heap} {b : Nat} {fs cm : List UInt8} {pre mid r : List Nd} {n : Nd} {k a : Nat} (h : TB H b fs cm (pre ++ n :: mid ++ r) k) (h1 : 0 < a) (h2 : a < n.t - n.f) :
    Cut H b fs cm (pre ++ n :: mid) r k (a + (alls fs cm pre).length) (n.b, 3) ((H ++ [HB.cells (ndC ⟨H.length, n.c, n.f + a, n.t⟩ (mid ++ r))]).set n.b (.cells (ndC ⟨n.b, n.c, n.f, n.f + a⟩ (⟨H.length, n.c, n.f + a, n.t⟩ :: (mid ++ r))))) := by
  rw [List.append_assoc, List.cons_append] at h
  have okn := h.ok n (by simp)
  have hl := lst_lt h.lst n (by simp)
  refine ⟨pre ++ [⟨n.b, n.c, n.f, n.f + a⟩], ⟨H.length, n.c, n.f + a, n.t⟩ :: mid, by rw [loc_snoc], ?_, ?_, ?_, ⟨?_, fun c hc hcs => ?_⟩, fun m hm => ?_⟩
  · rw [List.append_assoc]
    exact split_set h h1 h2
  · rw [alls_app, alls_app, alls_cons, alls_nil, List.append_nil, txt_take okn h2, Nat.add_comm, List.take_length_add_append, alls_cons, List.take_append_of_le_length (by rw [txt_len okn]; omega)]
  · rw [alls_app, alls_app, alls_app, alls_cons, alls_cons, alls_cons, alls_nil, List.append_nil, txt_take okn h2, txt_drop, List.append_assoc, ← List.append_assoc (List.take a _), List.take_append_drop]
  · simp
  · rw [List.getElem?_set_ne (fun e => hcs (by rw [← e]; simp)), List.getElem?_append_left hc]
  · simp only [List.mem_append, List.mem_cons, List.not_mem_nil, or_false] at hm
    rcases hm with (hm | rfl) | rfl | hm
    · left; simp only [List.map_append]; exact List.mem_append_left _ (List.mem_map_of_mem hm)
    · left; simp
    · right; exact Nat.le_refl _
    · left; simp only [List.map_append, List.map_cons]; exact List.mem_append_right _ (List.mem_cons_of_mem _ (List.mem_map_of_mem hm))
def Sz (fs cm : List UInt8) : Prop := fs.length ≤ 1000000000000000 ∧ cm.length ≤ 1000000000000000
theorem nd_sz {fs cm : List UInt8} {n : Nd} (hz : Sz fs cm) (h : NdOk fs cm n) : n.f < n.t ∧ n.t ≤ 1000000000000000 := by
  refine ⟨h.1, Nat.le_trans h.2 ?_⟩
  unfold srcN
  split
  · exact hz.2
  · exact hz.1
theorem ptr_cases (l : List Nd) : ptr l = .val (.pointer none) ∨ ∃ x, ptr l = .hp x 4 0 := by
  cases l with
  | nil => exact .inl rfl
  | cons n l => exact .inr ⟨n.b, rfl⟩
set_option maxRecDepth 20000 in
theorem cut_loop {S : Cx} {Q : Ex → Kt} {env : Env} {H : Heap} {b : Nat} {fs cm : List UInt8} {l r : List Nd} {k a : Nat} (hlk : S.lk = 0) (hlm : S.lim = 0) (hz : Sz fs cm) (h : TB H b fs cm (l ++ r) k) (ha : a ≤ (alls fs cm l).length) (ha2 : a ≤ 1000000000000000)
    (hE : restrict [1, 5] env = [(1, I a), (5, .hp b 4 2)])
    (hQ1 : ∀ env' p H', Cut H b fs cm l r k a p H' → restrict [5] env' = [(5, .hp p.1 4 p.2)] → Q (.exit 0) env' H')
    (hQ2 : ∀ env' p H', Cut H b fs cm l r k a p H' → find env' 4 = .hp p.1 4 p.2 → Q .ret env' H') : WB S (.loop [1, 5] t26L1) Q env H := by
  refine wb_loop (σ := List Nd × List Nd × Nat) (fun s => [(1, I s.2.2), (5, .hp (loc b s.1).1 4 (loc b s.1).2)]) (fun _ => H) (fun s => s.1 ++ s.2.1 = l ∧ s.2.2 + (alls fs cm s.1).length = a ∧ s.2.2 ≤ (alls fs cm s.2.1).length) (fun s => s.2.1.length) ?_ ([], l, a) ⟨rfl, by simp [alls_nil], ha⟩ hE rfl
  rintro ⟨pre, mid, c⟩ ⟨rfl, hc, hm⟩
  dsimp only at *
  have h' := h
  rw [List.append_assoc] at h
  obtain ⟨cs, g1, g2, g3⟩ := loc_get h
  unfold t26L1
  match mid with
  | [] =>
    have hc0 : c = 0 := by simpa [alls_nil] using hm
    subst hc0
    have n0 : ((loc b pre).2) < 4 := by
      rw [← g2]; exact (List.getElem?_eq_some_iff.1 g3).1
    have hq : ∀ env', restrict [5] env' = [(5, .hp (loc b pre).1 4 (loc b pre).2)] → Q (.exit 0) env' H := fun env' he => hQ1 env' _ H (cut_here h' (by omega)) he
    match r with
    | [] =>
      have hp : ptr ([] ++ []) = .val (.pointer none) := rfl
      rw [hp] at g3
      simp [g1, g2, g3, eqPtr, isPtr, restrict, find]
      exact hq _ rfl
    | m :: r =>
      have hp : ptr ([] ++ m :: r) = .hp m.b 4 0 := rfl
      rw [hp] at g3
      simp [g1, g2, g3, eqPtr, isPtr, restrict, find]
      exact hq _ rfl
  | n :: mid =>
    have okn := h.ok n (by simp)
    have hn := (lst_right h.lst).1
    obtain ⟨z1, z2⟩ := nd_sz hz okn
    have hlen := txt_len okn
    have w1 : IntKind.i64.wrap ((n.t : Int) - n.f) = ((n.t - n.f : Nat) : Int) := by rw [wrap64 (by omega) (by omega)]; omega
    have n0 : ((loc b pre).2) < 4 := by
      rw [← g2]; exact (List.getElem?_eq_some_iff.1 g3).1
    have hp : ptr (n :: mid ++ r) = .hp n.b 4 0 := rfl
    rw [hp] at g3
    simp only [ndC] at hn
    by_cases hc0 : c = 0
    · subst hc0
      simp [g1, g2, g3, eqPtr, isPtr, restrict, find]
      exact hQ1 _ (loc b pre) H (cut_here h' (by omega)) rfl
    · have hc1 : 0 < c := by omega
      by_cases hlt : c < n.t - n.f
      · have hlt2 : ((c : Int) < ((n.t - n.f : Nat) : Int)) = True := eq_true (by omega)
        simp [g1, g2, g3, eqPtr, isPtr, restrict, find, hc1, hn, w1, hlt]
        have hnl := lst_lt h.lst n (by simp)
        have w3 : IntKind.i64.wrap ((n.f : Int) + c) = ((n.f + c : Nat) : Int) := by rw [wrap64 (by omega) (by omega)]; omega
        have hap : ∀ x : HB, (H ++ [x])[n.b]? = H[n.b]? := fun m => List.getElem?_append_left hnl
        have hnl1 : n.b < H.length + 1 := by omega
        have gs : ∀ x y : HB, ((H ++ [x]).set n.b y)[n.b]? = some y := fun x y => List.getElem?_set_self (by simp; omega)
        have hcut := cut_split h' hc1 hlt
        rw [hc] at hcut
        unfold ndC at hcut
        simp only [List.append_eq] at hn
        generalize hpt : ptr (mid ++ r) = pt at hn hcut
        have hpv : pt = .val (.pointer none) ∨ ∃ x, pt = .hp x 4 0 := by
          rw [← hpt]; exact ptr_cases _
        refine wb_regM rfl (by decide) (inv_cons2 rfl (inv_cons2 rfl (inv_nil _))) ?_
        rcases hpv with rfl | ⟨x, rfl⟩
        all_goals
          simp [WRM, WGM, WIM, cls, rpOp, isRp, hn, hlk, hlm, replaceAt, w3, hap, setH, gs, find]
          refine hQ2 _ (n.b, 3) _ ?_ rfl
          simpa [ptr] using hcut
      · simp [g1, g2, g3, eqPtr, isPtr, restrict, find, hc1, hn, w1, hlt]
        rw [rnd_nrm]
        rw [alls_cons, List.length_append] at hm
        have w2 : IntKind.i64.wrap ((c : Int) - (n.t - n.f : Nat)) = ((c - (n.t - n.f) : Nat) : Int) := by rw [wrap64 (by omega) (by omega)]; omega
        refine ⟨(pre ++ [n], mid, c - (n.t - n.f)), ⟨by simp, ?_, ?_⟩, by simp, ?_, rfl⟩
        · show c - (n.t - n.f) + (alls fs cm (pre ++ [n])).length = a
          rw [alls_app, alls_cons, alls_nil, List.append_nil, List.length_append]
          omega
        · show c - (n.t - n.f) ≤ (alls fs cm mid).length
          omega
        · simp [restrict, find, loc_snoc, w2]
def FinX (rs : List ARes) (t : Bool) (H : Heap) (P : AV → Heap → Prop) : Ex → Kt := fun x e h => ∃ v h', finish ⟨0, .skip, rs, t⟩ H (some (x, e, h)) = some (v, h') ∧ P v h'
theorem finX_ret {rs : List ARes} {t : Bool} {H H' : Heap} {env : Env} {P : AV → Heap → Prop} : FinX rs t H P .ret env H' = ∃ v h', finish ⟨0, .skip, rs, t⟩ H (some (.ret, env, H')) = some (v, h') ∧ P v h' := rfl
theorem finX_nrm {rs : List ARes} {t : Bool} {H H' : Heap} {env : Env} {P : AV → Heap → Prop} : FinX rs t H P .nrm env H' = ∃ v h', finish ⟨0, .skip, rs, t⟩ H (some (.nrm, env, H')) = some (v, h') ∧ P v h' := rfl
/-- A CALL, of which something is told. -/
theorem wb_callX {X : Orc} {A : FuncId → Option AFn} {f : FuncId} {lk lim np : Nat} {args : List AV} {b : AC} {rs : List ARes} {t : Bool} {H : Heap} {P : AV → Heap → Prop} (B : List Nat) (hX : X lk lim f args H = none) (hA : A f = some ⟨np, b, rs, t⟩) (hl : args.length = np) (ha : args.all argOk = true)
    (h : WB ⟨callW X A, lk, if t then H.length else lim, B⟩ b (FinX rs t H P) (enterFrom 0 args) H) : ∃ v h', callW X A lk lim f args H = some (v, h') ∧ P v h' := by
  obtain ⟨x, e, h1, h2, ⟨v, h', h3, h4⟩, _⟩ := wb_sound h (enter_inv ha)
  refine ⟨v, h', ?_, h4⟩
  rw [callW_eq hX hA hl, h2]
  exact h3
def CutP (H : Heap) (b : Nat) (fs cm : List UInt8) (l r : List Nd) (k a : Nat) (v : AV) (H' : Heap) : Prop := ∃ p : Nat × Nat, v = .hp p.1 4 p.2 ∧ Cut H b fs cm l r k a p H'
set_option maxRecDepth 20000 in
theorem cut_code {H : Heap} {b : Nat} {fs cm : List UInt8} {l r : List Nd} {k a : Nat} (hz : Sz fs cm) (h : TB H b fs cm (l ++ r) k) (ha : a ≤ (alls fs cm l).length) (ha2 : a ≤ 1000000000000000) :
    ∃ p H', callW X A 0 0 26 [.hp b 4 0, I a] H = some (.hp p.1 4 p.2, H') ∧ Cut H b fs cm l r k a p H' := by
  have main : ∃ v h', callW X A 0 0 26 [.hp b 4 0, I a] H = some (v, h') ∧ CutP H b fs cm l r k a v h' := by
    refine wb_callX [] rfl A26 rfl rfl ?_
    unfold t26B
    generalize callW X A = C
    simp [eqPtr, isPtr]
    refine cut_loop rfl rfl hz h ha ha2 (by simp [restrict, find]) ?_ ?_
    · intro env p H' hc he
      rw [blk_exit, if_pos rfl, fol_nrm, wb_seq, wb_regN, he]
      simp [finX_ret]
      exact ⟨_, _, ⟨rfl, rfl⟩, p, rfl, hc⟩
    · intro env p H' hc he
      simp [he, finX_ret]
      exact ⟨_, _, ⟨rfl, rfl⟩, p, rfl, hc⟩
  obtain ⟨v, H', h1, p, rfl, h2⟩ := main
  exact ⟨p, H', h1, h2⟩
end Go.Proofs.Ytmehaecclidfjaa
