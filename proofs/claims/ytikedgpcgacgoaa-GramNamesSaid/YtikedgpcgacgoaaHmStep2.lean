/- One instruction: stores, appends. -/
import Derived.Test.YtikedgpcgacgoaaHmStep1
namespace Go.Hm
open Go Go.RowKit

theorem find_setAt : ∀ {env : Env} {t : Nat} {v : AV}, find env t ≠ .dead → ∀ u, find (setAt env t v) u = if u = t then v else find env u
  | [], t, v, h, u => by simp [find] at h
  | (t', v') :: r, t, v, h, u => by
    simp only [setAt]
    by_cases e : t' = t
    · subst e
      simp only [if_true, find]
      by_cases e2 : t' = u
      · subst e2; simp
      · rw [if_neg e2, if_neg e2, if_neg (fun e => e2 e.symm)]
    · simp only [find, if_neg e] at h
      rw [if_neg e]
      simp only [find]
      by_cases e2 : t' = u
      · subst e2; simp [e]
      · rw [if_neg e2, if_neg e2, find_setAt h u]

theorem wm_wr {w w' : World} {k : Nat} {arr arr' : Array Value} {ty : TypeId} {fr : Nat × Nat} (h : Wr w w' k) (hk : w.heap[k]? = some (.cells arr ty fr)) (hk' : w'.heap[k]? = some (.cells arr' ty fr)) (hs : arr'.size = arr.size) : Wm w w' :=
  ⟨Nat.le_of_eq h.size.symm, fun j a t f hj => by
    by_cases e : j = k
    · subst e; rw [hk] at hj; cases hj; exact ⟨arr', hk', hs⟩
    · exact ⟨a, by rw [h.block j e]; exact hj, rfl⟩⟩
theorem cell_wr {w w' : World} {k : Nat} (h : Wr w w' k) {j o : Nat} (hj : j ≠ k) : w'.cell? ⟨j, o, none⟩ = w.cell? ⟨j, o, none⟩ := World.cell?_of_block (h.block j hj)

section
variable {P : Program} {φ0 : Nat → Nat} {F0 : Nat → Nat → Prop} {H0 : Heap} {w0 : World} {φ : Nat → Nat} {F : Nat → Nat → Prop} {H : Heap} {w : World} {β : Nat → Nat} {env : Env} {act : Act} {T : Nat}

/-- A row in which a part was replaced. -/
theorem row_replace {cs new : List AV} {arr nv : List Value} {off : Nat} (hc : ∀ (i : Nat) a, cs[i]? = some a → ∃ v, arr[i]? = some v ∧ CRel φ F H w a v) (hn : CL φ F H w new nv) (hl : off + new.length ≤ cs.length) (hle : cs.length ≤ arr.length) :
    ∀ (i : Nat) a, (replaceAt cs off new)[i]? = some a → ∃ v, (arr.take off ++ nv ++ arr.drop (off + nv.length))[i]? = some v ∧ CRel φ F H w a v := by
  intro i a ha
  unfold replaceAt at ha
  have e := hn.1
  rw [List.append_assoc, List.getElem?_append] at ha ⊢
  rw [List.length_take] at ha ⊢
  by_cases h1 : i < off
  · rw [if_pos (by omega)] at ha
    rw [if_pos (by omega)]
    rw [List.getElem?_take, if_pos h1] at ha ⊢
    exact hc i a ha
  · rw [if_neg (by omega)] at ha
    rw [if_neg (by omega)]
    rw [List.getElem?_append] at ha ⊢
    have m1 : min off cs.length = off := by omega
    have m2 : min off arr.length = off := by omega
    rw [m1] at ha
    rw [m2]
    by_cases h2 : i - off < new.length
    · rw [if_pos h2] at ha
      rw [if_pos (by omega)]
      exact hn.get ha
    · rw [if_neg h2] at ha
      rw [if_neg (by omega)]
      rw [List.getElem?_drop] at ha ⊢
      have e3 : off + nv.length + (i - off - nv.length) = i := by omega
      have e4 : off + new.length + (i - off - new.length) = i := by omega
      rw [e4] at ha
      rw [e3]
      exact hc i a ha

theorem replaceAt_length {cs new : List AV} {off : Nat} (hl : off + new.length ≤ cs.length) : (replaceAt cs off new).length = cs.length := by
  unfold replaceAt
  simp only [List.length_append, List.length_take, List.length_drop]
  omega

/-- A block that belongs to nobody else is written. -/
theorem write_ext {w' : World} {k : Nat} {arr arr' : Array Value} {ty : TypeId} (h : Wr w w' k) (hk : w.heap[k]? = some (.cells arr ty (0, 0))) (hk' : w'.heap[k]? = some (.cells arr' ty (0, 0))) (hs : arr'.size = arr.size)
    (hF : ∀ o, ¬ F k o) {H' : Heap} (hH : ∀ (b : Nat) cs, H[b]? = some (.cells cs) → ∃ cs', H'[b]? = some (.cells cs') ∧ cs'.length = cs.length) : Ext φ F H w φ F H' w' :=
  ⟨fun b cs hb => by
    obtain ⟨cs', h1, h2⟩ := hH b cs hb
    exact ⟨cs', h1, by omega, fun _ => rfl⟩, fun j o hf => ⟨hf, cell_wr h (fun e => by subst e; exact hF o hf)⟩, wm_wr h hk hk' hs⟩

theorem f_stL (f : Full φ0 F0 H0 w0 φ F H w β env act T) {t off : Nat} {cs new : List AV} {nv : List Value} (ht : find env t = .box cs) (hn : CL φ F H w new nv) (h1 : ∀ v ∈ nv, v.oneCell' = true) (hl : off + new.length ≤ cs.length) :
    ∃ w', (storeCells ⟨β t, off, none⟩ nv).run P w = .ok () w' ∧ Post φ0 F0 H0 w0 H (setAt env t (.box (replaceAt cs off new))) T act w' := by
  have hslot := f.st.slot t
  rw [ht] at hslot
  obtain ⟨arr, ty, ha, hc⟩ := hslot.2
  have hcs : cs.length ≤ arr.toList.length := by
    by_cases h0 : cs.length = 0
    · omega
    · obtain ⟨v, hv, _⟩ := hc (cs.length - 1) cs[cs.length - 1] (by simp)
      have := (Array.getElem?_eq_some_iff.1 hv).1
      simp; omega
  have hnl := hn.1
  have hrun := run_store_mid P w (β t) off arr ty nv ha (by simpa using (by omega : off + nv.length ≤ arr.toList.length)) h1
  refine ⟨_, hrun, ?_⟩
  generalize harr' : (arr.toList.take off ++ nv ++ arr.toList.drop (off + nv.length)).toArray = arr' at hrun ⊢
  have hsz : arr'.size = arr.size := by
    rw [← harr']; simp only [List.size_toArray, List.length_append, List.length_take, List.length_drop, Array.length_toList] at hcs ⊢; omega
  have hwr := setRow_wr w (β t) arr'
  have hk' := setRow_heap w (β t) arr arr' ty (0, 0) ha
  have e : Ext φ F H w φ F H (w.setRow (β t) arr') := write_ext hwr ha hk' hsz (fun o => f.st.bF t cs o ht) (fun b cs hb => ⟨cs, hb, rfl⟩)
  have hrow := row_replace (by simpa using hc) hn hl hcs
  have sr' : SR φ F H (w.setRow (β t) arr') := by
    refine ⟨fun b cs' hb hne => ?_, f.st.sr.inj, f.st.sr.phiF, fun k o hf => by rw [hwr.size]; exact f.st.sr.fsz k o hf⟩
    obtain ⟨a2, ty2, h2, hc2⟩ := f.st.sr.blk b cs' hb hne
    have hne2 : φ b ≠ β t := fun e => f.st.bphi t cs b ht ⟨cs', hb, hne⟩ e.symm
    refine ⟨a2, ty2, by rw [hwr.block _ hne2]; exact h2, fun i a hi => ?_⟩
    obtain ⟨v, hv, hr⟩ := hc2 i a hi
    exact ⟨v, hv, hr.mono e⟩
  have nd : find env t ≠ .dead := by rw [ht]; exact fun h => by cases h
  have fs := find_setAt (v := .box (replaceAt cs off new)) nd
  have boxOf : ∀ u cs', find (setAt env t (.box (replaceAt cs off new))) u = .box cs' → ∃ cs'', find env u = .box cs'' := fun u cs' hu => by
    rw [fs u] at hu
    by_cases e : u = t
    · subst e; exact ⟨cs, ht⟩
    · rw [if_neg e] at hu; exact ⟨cs', hu⟩
  have st' : St φ F H (w.setRow (β t) arr') β (setAt env t (.box (replaceAt cs off new))) act T := by
    refine ⟨sr', f.st.size, fun u => ?_, fun u cs' b hu hl => ?_, fun u u' c1 c2 h1 h2 he => ?_, fun u cs' o hu => ?_⟩
    · rw [fs u]
      by_cases eu : u = t
      · subst eu
        rw [if_pos rfl]
        refine ⟨hslot.1, arr', ty, hk', fun i a hi => ?_⟩
        obtain ⟨v, hv, hr⟩ := hrow i a hi
        exact ⟨v, by rw [← harr']; simpa using hv, hr.mono e⟩
      · rw [if_neg eu]
        have hu := f.st.slot u
        generalize hfu : find env u = a at hu
        cases a
        case box cs' =>
          refine ⟨hu.1, ?_⟩
          obtain ⟨a2, ty2, h2, hc2⟩ := hu.2
          have hne2 : β u ≠ β t := fun e => eu (f.st.binj u t cs' cs hfu ht e)
          refine ⟨a2, ty2, by rw [hwr.block _ hne2]; exact h2, fun i a hi => ?_⟩
          obtain ⟨v, hv, hr⟩ := hc2 i a hi
          exact ⟨v, hv, hr.mono e⟩
        case rp => exact hu
        case und => exact hu
        case dead => trivial
        all_goals exact VRel.mono e hu
    · obtain ⟨cs'', h⟩ := boxOf u cs' hu; exact f.st.bphi u cs'' b h hl
    · obtain ⟨c3, h3⟩ := boxOf u c1 h1
      obtain ⟨c4, h4⟩ := boxOf u' c2 h2
      exact f.st.binj u u' c3 c4 h3 h4 he
    · obtain ⟨cs'', h⟩ := boxOf u cs' hu; exact f.st.bF u cs'' o h
  refine ⟨φ, F, β, f.next (S := fun k => k = β t) ⟨hwr.os, hwr.tape, hwr.output, Nat.le_of_eq hwr.size.symm, fun k _ hk => hwr.block k hk⟩ (fun k hk => .inr ⟨t, cs, ht, hk.symm⟩) st' e (fun b hl => .inl ⟨hl, rfl⟩) (fun u cs' hu => ?_) rfl (fun _ _ h => .inl h)⟩
  obtain ⟨cs'', h⟩ := boxOf u cs' hu
  exact .inl ⟨cs'', h, rfl⟩

/-- The cells of a heap's block are written: any part that lies within the block. -/
theorem f_wrH (f : Full φ0 F0 H0 w0 φ F H w β env act T) {b : Nat} {cs cs' : List AV} {arr arr' : Array Value} {ty : TypeId} (hb : H[b]? = some (.cells cs)) (hne : cs ≠ []) (hl : cs.length ≤ cs'.length)
    (ha : w.heap[φ b]? = some (.cells arr ty (0, 0))) (hs : arr'.size = arr.size) (hc : ∀ (i : Nat) a, cs'[i]? = some a → ∃ v, arr'[i]? = some v ∧ CRel φ F H w a v) :
    Ext φ F H w φ F (H.set b (.cells cs')) (w.setRow (φ b) arr') ∧ ∀ {dst : Option Nat} {v : AV} {cv : Value} {env' : Env}, (∀ d, dst = some d → d < T) → put dst v env = some env' → ORel φ F (H.set b (.cells cs')) (w.setRow (φ b) arr') β v cv →
      Post φ0 F0 H0 w0 (H.set b (.cells cs')) env' T (act.put dst cv) (w.setRow (φ b) arr') := by
  have hlb : live H b := ⟨cs, hb, hne⟩
  have hblt : b < H.length := (List.getElem?_eq_some_iff.1 hb).1
  have hwr := setRow_wr w (φ b) arr'
  have hk' := setRow_heap w (φ b) arr arr' ty (0, 0) ha
  have hself : (H.set b (.cells cs'))[b]? = some (.cells cs') := by simp [hblt]
  have hoth : ∀ b', b' ≠ b → (H.set b (.cells cs'))[b']? = H[b']? := fun b' h => by rw [List.getElem?_set_ne (fun e => h e.symm)]
  have e : Ext φ F H w φ F (H.set b (.cells cs')) (w.setRow (φ b) arr') :=
    ⟨fun b' c2 h2 => by
      by_cases hbb : b' = b
      · subst hbb; rw [hb] at h2; cases h2; exact ⟨cs', hself, hl, fun _ => rfl⟩
      · exact ⟨c2, by rw [hoth b' hbb]; exact h2, Nat.le_refl _, fun _ => rfl⟩,
     fun j o hf => ⟨hf, cell_wr hwr (fun e => by subst e; exact f.st.sr.phiF b o hlb hf)⟩, wm_wr hwr ha hk' hs⟩
  have lv : ∀ b', live (H.set b (.cells cs')) b' → live H b' := fun b' ⟨c2, h2, n2⟩ => by
    by_cases hbb : b' = b
    · subst hbb; exact hlb
    · exact ⟨c2, by rw [← hoth b' hbb]; exact h2, n2⟩
  have sr' : SR φ F (H.set b (.cells cs')) (w.setRow (φ b) arr') := by
    refine ⟨fun b' c2 h2 n2 => ?_, fun b1 b2 h1 h2 he => f.st.sr.inj b1 b2 (lv b1 h1) (lv b2 h2) he, fun b' o hl2 => f.st.sr.phiF b' o (lv b' hl2), fun k o hf => by rw [hwr.size]; exact f.st.sr.fsz k o hf⟩
    by_cases hbb : b' = b
    · subst hbb
      rw [hself] at h2; cases h2
      refine ⟨arr', ty, hk', fun i a hi => ?_⟩
      obtain ⟨v, hv, hr⟩ := hc i a hi
      exact ⟨v, hv, hr.mono e⟩
    · rw [hoth b' hbb] at h2
      obtain ⟨a2, ty2, h3, hc2⟩ := f.st.sr.blk b' c2 h2 n2
      have hne2 : φ b' ≠ φ b := fun e => hbb (f.st.sr.inj b' b ⟨c2, h2, n2⟩ hlb e)
      refine ⟨a2, ty2, by rw [hwr.block _ hne2]; exact h3, fun i a hi => ?_⟩
      obtain ⟨v, hv, hr⟩ := hc2 i a hi
      exact ⟨v, hv, hr.mono e⟩
  refine ⟨e, fun {dst v cv env'} hd hp hv => ?_⟩
  have st' := f.st.mono e sr' (fun t c2 ht => ⟨hwr.block _ (f.st.bphi t c2 b ht hlb), fun b' hl2 => f.st.bphi t c2 b' ht (lv b' hl2), fun o => f.st.bF t c2 o ht⟩)
  exact ⟨φ, F, β, f.next (S := fun k => k = φ b) ⟨hwr.os, hwr.tape, hwr.output, Nat.le_of_eq hwr.size.symm, fun k _ hk => hwr.block k hk⟩ (fun k hk => .inl ⟨b, hlb, hk.symm⟩) (st'.put1 hd hp hv) e (fun b' hl2 => .inl ⟨lv b' hl2, rfl⟩) (fun t c2 ht => .inl ⟨c2, find_put hp hv.notBox ht, rfl⟩) (by cases dst <;> rfl) (fun _ _ h => .inl h)⟩

/-- A block of the heap gets another place: what was there grows into a new block. -/
theorem f_move (f : Full φ0 F0 H0 w0 φ F H w β env act T) {b k : Nat} {cs cs' : List AV} {arr : Array Value} {ty : TypeId} {w' : World} (hb : H[b]? = some (.cells cs)) (hl : cs.length < cs'.length) (hbw : Below w.heap.size w w') (hk : w.heap.size ≤ k)
    (hbl : w'.heap[k]? = some (.cells arr ty (0, 0))) (hc : ∀ (i : Nat) a, cs'[i]? = some a → ∃ v, arr[i]? = some v ∧ CRel φ F H w a v)
    {dst : Option Nat} {v : AV} {cv : Value} {env' : Env} (hd : ∀ d, dst = some d → d < T) (hp : put dst v env = some env')
    (hv : ∀ φ', φ' b = k → ORel φ' F (H.set b (.cells cs')) w' β v cv) :
    Post φ0 F0 H0 w0 (H.set b (.cells cs')) env' T (act.put dst cv) w' := by
  have hblt : b < H.length := (List.getElem?_eq_some_iff.1 hb).1
  have hself : (H.set b (.cells cs'))[b]? = some (.cells cs') := by simp [hblt]
  have hoth : ∀ b', b' ≠ b → (H.set b (.cells cs'))[b']? = H[b']? := fun b' h => by rw [List.getElem?_set_ne (fun e => h e.symm)]
  obtain ⟨φ', hφ1, hφ2⟩ : ∃ φ' : Nat → Nat, φ' b = k ∧ ∀ x, x ≠ b → φ' x = φ x := ⟨fun x => if x = b then k else φ x, if_pos rfl, fun x hx => if_neg hx⟩
  have hv' := hv φ' hφ1
  have e : Ext φ F H w φ' F (H.set b (.cells cs')) w' :=
    ⟨fun b' c2 h2 => by
      by_cases hbb : b' = b
      · subst hbb; rw [hb] at h2; cases h2; exact ⟨cs', hself, by omega, fun h => by omega⟩
      · exact ⟨c2, by rw [hoth b' hbb]; exact h2, Nat.le_refl _, fun _ => hφ2 b' hbb⟩,
     fun j o hf => ⟨hf, cell_below hbw (f.st.sr.fsz j o hf)⟩, wm_below hbw⟩
  have lv : ∀ b', live (H.set b (.cells cs')) b' → (b' ≠ b ∧ live H b' ∧ φ' b' = φ b') ∨ (b' = b ∧ φ' b' = k) := fun b' ⟨c2, h2, n2⟩ => by
    by_cases hbb : b' = b
    · subst hbb; exact .inr ⟨rfl, hφ1⟩
    · exact .inl ⟨hbb, ⟨c2, by rw [← hoth b' hbb]; exact h2, n2⟩, hφ2 b' hbb⟩
  have sr' : SR φ' F (H.set b (.cells cs')) w' := by
    refine ⟨fun b' c2 h2 n2 => ?_, fun b1 b2 h1 h2 he => ?_, fun b' o hl2 hf => ?_, fun j o hf => ?_⟩
    · by_cases hbb : b' = b
      · subst hbb
        rw [hself] at h2; cases h2
        refine ⟨arr, ty, by rw [hφ1]; exact hbl, fun i a hi => ?_⟩
        obtain ⟨v, hv, hr⟩ := hc i a hi
        exact ⟨v, hv, hr.mono e⟩
      · rw [hoth b' hbb] at h2
        obtain ⟨a2, ty2, h3, hc2⟩ := f.st.sr.blk b' c2 h2 n2
        refine ⟨a2, ty2, by rw [hφ2 b' hbb, hbw.block _ (Array.getElem?_eq_some_iff.1 h3).1]; exact h3, fun i a hi => ?_⟩
        obtain ⟨v, hv, hr⟩ := hc2 i a hi
        exact ⟨v, hv, hr.mono e⟩
    · rcases lv b1 h1 with ⟨n1, l1, p1⟩ | ⟨n1, p1⟩ <;> rcases lv b2 h2 with ⟨n2, l2, p2⟩ | ⟨n2, p2⟩
      · rw [p1, p2] at he; exact f.st.sr.inj b1 b2 l1 l2 he
      · have := live_lt f.st.sr l1; omega
      · have := live_lt f.st.sr l2; omega
      · omega
    · rcases lv b' hl2 with ⟨_, l, p⟩ | ⟨_, p⟩
      · rw [p] at hf; exact f.st.sr.phiF b' o l hf
      · rw [p] at hf; have := f.st.sr.fsz k o hf; omega
    · have := f.st.sr.fsz j o hf; have := hbw.size; omega
  have st' := f.st.mono e sr' (fun t c2 ht => ⟨hbw.block _ (box_lt f.st ht), fun b' hl2 => by
    rcases lv b' hl2 with ⟨_, l, p⟩ | ⟨_, p⟩
    · rw [p]; exact f.st.bphi t c2 b' ht l
    · rw [p]; have := box_lt f.st ht; omega, fun o => f.st.bF t c2 o ht⟩)
  refine ⟨φ', F, β, f.next (Chg.of_below hbw fun _ => False) (fun _ h => h.elim) (st'.put1 hd hp hv') e (fun b' hl2 => ?_) (fun t c2 ht => .inl ⟨c2, find_put hp hv'.notBox ht, rfl⟩) (by cases dst <;> rfl) (fun _ _ h => .inl h)⟩
  rcases lv b' hl2 with ⟨_, l, p⟩ | ⟨_, p⟩
  · exact .inl ⟨l, p.symm⟩
  · exact .inr (by rw [p]; exact hk)
end
end Go.Hm
