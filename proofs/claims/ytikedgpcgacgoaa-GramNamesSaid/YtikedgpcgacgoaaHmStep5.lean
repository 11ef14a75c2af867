/- One instruction: append. -/
import Derived.Test.YtikedgpcgacgoaaHmStep4
namespace Go.Hm
open Go Go.RowKit

section
variable {P : Program} {φ0 : Nat → Nat} {F0 : Nat → Nat → Prop} {H0 : Heap} {w0 : World} {φ : Nat → Nat} {F : Nat → Nat → Prop} {H : Heap} {w : World} {β : Nat → Nat} {env : Env} {act : Act} {T : Nat}

/-- What is appended. -/
theorem src_rel (s : SR φ F H w) {tx : TypeId} {es m : Nat} {a : AV} {v : Value} {new : List AV} (h : ORel φ F H w β a v) (hc : srcCells H a = some (m, new)) (hm : new.length = m * es)
    (hk : (∃ e', P.underlying tx = some (.slice e')) ∨ P.underlying tx = some .string) : ∃ news, Src P es tx v m news w ∧ CL φ F H w new news := by
  have sl : slCells H a = some new → slN a = m → ∃ news, Src P es tx v m news w ∧ CL φ F H w new news := by
    intro hsl hn
    obtain ⟨x, n, cap, rfl, hn', hrow, hx⟩ := slCells_rel s h hsl
    have hnm : n = m := by omega
    subst hnm
    cases x with
    | none =>
      have h0 := hx rfl
      subst h0
      have hnil : new = [] := List.eq_nil_of_length_eq_zero (by omega)
      subst hnil
      exact ⟨[], ⟨hk, fun _ => rfl, run_firstCells_none w es 0 0 cap, run_firstCells_none w.drew es 0 0 cap, by simp, fun _ h => by cases h⟩, rfl, fun i a v ha => by simp at ha⟩
    | some ad =>
      have hall : ∃ news : List Value, news.length = new.length ∧ (∀ (j : Nat) u, news[j]? = some u → w.cell? (ad.add j) = some u) ∧ CL φ F H w new news := by
        rcases hrow with hrow | ⟨k, o, hx2, hrow⟩
        · subst hrow; exact ⟨[], rfl, fun j u hu => by simp at hu, rfl, fun i a v ha => by simp at ha⟩
        · cases hx2
          have := hrow.range (off := 0) (n := new.length) (by omega)
          obtain ⟨news, h3, h2, h1⟩ := this
          refine ⟨news, h1, fun j u hu => ?_, ?_⟩
          · rw [add_none]; simpa using h2 j u hu
          · simpa using h3
      obtain ⟨news, h1, h2, h3⟩ := hall
      refine ⟨news, ⟨hk, fun _ => rfl, run_firstCells_some w es n ad n cap news (by omega) h2, run_firstCells_some w.drew es n ad n cap news (by omega) (by simpa using h2), by omega, fun u hu => ?_⟩, h3⟩
      obtain ⟨i, hi⟩ := List.getElem?_of_mem hu
      have hlt : i < new.length := by rw [← h1]; exact (List.getElem?_eq_some_iff.1 hi).1
      exact (h3.2 i new[i] u (by simp [hlt]) hi).oneCell
  unfold srcCells at hc
  split at hc
  · rename_i str
    simp only [Option.some.injEq, Prod.mk.injEq] at hc
    obtain ⟨rfl, rfl⟩ := hc
    have hv : v = .string str := (VRel.inv_val h).1
    subst hv
    have hf : ∀ w' : World, (Builtin.firstCells es str.size (.string str)).run P w' = .ok (byteCells str).toArray w' := fun w' => by
      rw [← firstCells_string (P := P) str w']; rfl
    refine ⟨byteCells str, ⟨hk, fun _ => rfl, hf w, hf w.drew, ?_, fun u hu => ?_⟩, bytes_CL str⟩
    · rw [byteCells_length]; simpa using hm
    · obtain ⟨_, _, rfl⟩ := List.mem_map.1 hu
      rfl
  · split at hc
    · rename_i cs hcs
      simp only [Option.some.injEq, Prod.mk.injEq] at hc
      obtain ⟨h1, rfl⟩ := hc
      exact sl hcs h1
    · simp at hc

theorem run_append_room_row (t tx ty e : TypeId) {sz : Nat} (ht : P.underlying t = some (.slice e)) (hi : szOf P e = some sz) (b sLen sCap : Nat) (x : Value) (n : Nat) (news : List Value) (hs : Src P sz tx x n news w)
    (hroom : sLen + n ≤ sCap) {arr : Array Value} {tb : TypeId} (hb : w.heap[b]? = some (.cells arr tb (0, 0))) (hl : sLen * sz + news.length ≤ arr.size) :
    (Builtin.append_ #[t, tx] ty #[.slice (some ⟨b, 0, none⟩) sLen sCap, x]).run P w = .ok (.slice (some ⟨b, 0, none⟩) (sLen + n) sCap) (w.setRow b (arr.toList.take (sLen * sz) ++ news ++ arr.toList.drop (sLen * sz + news.length)).toArray) := by
  have hst := run_store_mid P w b (sLen * sz) arr tb news hb hl hs.one
  have hsz : (sizeOf e).run P w = .ok sz w := szOf_run hi w
  rcases hs.kind with ⟨e', hk⟩ | hk <;> simp [Builtin.append_, run_underlying ht, run_underlying hk, hsz, hs.len, hroom, hs.cells, Addr.add_lit, hst]

theorem run_append_same (t tx ty e : TypeId) {sz : Nat} (ht : P.underlying t = some (.slice e)) (hi : szOf P e = some sz) (base : Option Addr) (sCap : Nat) (x : Value) (hs : Src P sz tx x 0 [] w) :
    (Builtin.append_ #[t, tx] ty #[.slice base 0 sCap, x]).run P w = .ok (.slice base 0 sCap) w := by
  have hsz : (sizeOf e).run P w = .ok sz w := szOf_run hi w
  rcases hs.kind with ⟨e', hk⟩ | hk <;> cases base <;> simp [Builtin.append_, run_underlying ht, run_underlying hk, hsz, hs.len, hs.cells, storeCells]

theorem zeroCells_size (z : Array Value) (n : Nat) : (Builtin.zeroCells z n).size = n * z.size := by simp [Builtin.zeroCells]

theorem oper_append {c : Call} {x y : Operand} {t tx : TypeId} (hc : c.callee = .builtin .append) (hat : c.argTypes.toList = [t, tx]) (har : c.args.toList = [x, y]) {dst : Option Nat} {type : TypeId} {pos : String} {after : Array Edge} {guard : Option (Nat × Bool)} {v : Value} {w' : World}
    (h : (Builtin.append_ #[t, tx] type #[act.eval x, act.eval y]).run P w = .ok v w') : (execOp act.eval { dst, op := .call c, type, pos, after, guard }).run P w = .ok (.value v) w' := by
  have h1 : c.argTypes = #[t, tx] := by apply Array.ext'; simpa using hat
  have h2 : c.args = #[x, y] := by apply Array.ext'; simpa using har
  simp [execOp, resolve, hc, h1, h2, invoke, builtin, h]

theorem fits_len {m bytes : Nat} (hb : 0 < bytes) (h : m * bytes ≤ room) : ((m : Nat) : Int) ≤ 9223372036854775807 := by
  have : m * 1 ≤ m * bytes := Nat.mul_le_mul_left m hb
  unfold room at h
  omega

theorem s_app (f : Full φ0 F0 H0 w0 φ F H w β env act T) {dst : Option Nat} {c : Call} {x y : Operand} {t tx e : TypeId} {es bytes lk lim base : Nat} {env' : Env} {H' : Heap} (hd : ∀ d, dst = some d → d < T) (hc : c.callee = .builtin .append) (hat : c.argTypes.toList = [t, tx]) (har : c.args.toList = [x, y])
    (ht : P.underlying t = some (.slice e)) (hk : (∃ e', P.underlying tx = some (.slice e')) ∨ P.underlying tx = some .string) (hsz : szOf P e = some es) (hby : byOf P e = some bytes) (hes : 0 < es) (hb0 : 0 < bytes) (hz : (zOf P e).isSome = true) (hzl : ∀ z, zOf P e = some z → z.length = es)
    (h : exOp lk lim base dst (.app es bytes (cO x) (cO y)) env H = some (env', H')) : Sound P φ0 F0 H0 w0 T act w dst (.call c) H' env' := by
  obtain ⟨z, hz⟩ := Option.isSome_iff_exists.1 hz
  obtain ⟨i, zv, hi, hzv, hof⟩ := zOf_run hz
  have hzrel : CL φ F H w z zv.cells.toList := of1s_rel hof
  have hzs : zv.cells.size = es := by rw [← hzl z hz, ← hzrel.1, Array.length_toList]
  have hik : i.size = es := by simpa [szOf, hi] using hsz
  have hib : i.bytes = bytes := by simpa [byOf, hi] using hby
  simp only [exOp] at h
  split at h
  case h_2 => simp at h
  rename_i m new hsrc
  split at h
  case isFalse => simp at h
  rename_i hlen
  obtain ⟨news, src, hnew⟩ := src_rel (P := P) f.st.sr (ev_rel f.st y) hsrc hlen hk
  have hnl := hnew.1
  have src' : Src P i.size tx (act.eval y) m news w := by rw [hik]; exact src
  split at h
  · rename_i hx
    obtain ⟨x0, hxv⟩ := VRel.inv_e0 (show VRel φ F H w .e0 (act.eval x) from ev_of f.st hx)
    split at h
    · rename_i hm
      subst hm
      split at h
      case h_2 => simp at h
      rename_i env2 hp
      simp only [Option.some.injEq, Prod.mk.injEq] at h
      obtain ⟨rfl, rfl⟩ := h
      have hnil : news = [] := List.eq_nil_of_length_eq_zero (by omega)
      subst hnil
      intro type pos after guard next Q hkk
      unfold Oper.wp
      rw [oper_append hc hat har (by rw [hxv]; exact run_append_same t tx type e ht hsz x0 0 _ src)]
      exact hkk _ _ (f_pure f hd hp (VRel.one (.e0 _)))
    · rename_i hm
      split at h
      case isFalse => simp at h
      rename_i hroom
      split at h
      case h_2 => simp at h
      rename_i env2 hp
      simp only [Option.some.injEq, Prod.mk.injEq] at h
      obtain ⟨rfl, rfl⟩ := h
      intro type pos after guard next Q hkk
      unfold Oper.wp
      have hold : (Builtin.firstCells i.size 0 (.slice x0 0 0)).run P w.drew = .ok ([] : List Value).toArray w.drew := by
        cases x0 with
        | none => exact run_firstCells_none w.drew _ _ _ _
        | some a => exact run_firstCells_some w.drew _ 0 a 0 0 [] (by simp) (fun j v hv => by simp at hv)
      have hr := run_append_grow_src w t tx type e i zv ht hi hzv x0 0 0 [] hold (act.eval y) m news src' (by omega) (by rw [Nat.zero_add]; exact fits_len hb0 hroom)
        (growslice_fits (by omega) (by rw [hib, Nat.zero_add]; unfold room at hroom; exact hroom))
      rw [oper_append hc hat har (by rw [hxv]; exact hr)]
      have hcap := grownCap_ge w (0 + m) 0 e
      generalize hcapv : grownCap w (0 + m) 0 e = cap at hcap hr
      generalize harr : ((([] : List Value) ++ news).toArray ++ Builtin.zeroCells zv.cells (cap - (0 + m))) = arr
      have hbw : Below w.heap.size w (w.drew.alloc (.cells arr e)) := (Below.refl w.heap.size w).drew.alloc (Nat.le_refl _) _
      have hnw : (w.drew.alloc (.cells arr e)).heap[w.heap.size]? = some (.cells arr e (0, 0)) := heap_alloc_new w.drew _
      have hasz : arr.size = cap * es := by
        rw [← harr, Array.size_append, zeroCells_size, hzs]
        simp only [List.nil_append, List.size_toArray, Nat.zero_add] at hcap ⊢
        rw [hnl, hlen, ← Nat.add_mul]
        congr 1; omega
      have hHn : ∀ cs, H[H.length]? ≠ some (.cells cs) := fun cs => by simp
      have hHb : (H ++ [HB.cells new])[H.length]? = some (.cells new) := by simp
      refine hkk _ _ (f_make f hd hp hbw (Nat.le_refl _) hnw hHn hHb (fun b' hb' => ?_) (fun j a ha => ?_) (fun φ' _ hφ => ?_))
      · by_cases hlt : b' < H.length
        · rw [List.getElem?_append_left hlt]
        · rw [List.getElem?_eq_none (by simp; omega), List.getElem?_eq_none (by omega)]
      · obtain ⟨u, hu, hr⟩ := hnew.get ha
        refine ⟨u, ?_, hr⟩
        have hlt : j < news.length := (List.getElem?_eq_some_iff.1 hu).1
        rw [← harr, Array.getElem?_append_left (by simpa using hlt)]
        simpa using hu
      · have := hs_new (β := β) (n := m) (cap := cap) hlen hes w.heap.size (by omega) (Nat.le_of_eq hasz.symm) (fun h => by omega) φ' F _ _ hφ hHb hnw
        rw [Nat.zero_add]
        exact this
  · rename_i b g off n es' hx
    split at h
    case h_2 => simp at h
    rename_i cs hb
    split at h
    case isFalse => simp at h
    rename_i hcond
    obtain ⟨hoff, hg, hng, hese, hroom⟩ := hcond
    subst hese
    subst hoff
    split at h
    case h_2 => simp at h
    rename_i H2 hset
    unfold setH at hset
    split at hset
    case isFalse => simp at hset
    simp only [Option.some.injEq] at hset
    subst hset
    split at h
    case h_2 => simp at h
    rename_i env2 hp
    simp only [Option.some.injEq, Prod.mk.injEq] at h
    obtain ⟨rfl, rfl⟩ := h
    have hblt : b < H.length := (List.getElem?_eq_some_iff.1 hb).1
    have hself : (H.set b (.cells (cs ++ new)))[b]? = some (.cells (cs ++ new)) := by simp [hblt]
    have hxr : VRel φ F H w (.hs b g 0 n es') (act.eval x) := ev_of f.st hx
    generalize hxv : act.eval x = xv at hxr
    cases hxr with
    | one hxr =>
    cases hxr with
    | hs b g off n es cs2 xa cap hb2 hg2 hn2 hx0 hcase =>
    rw [hb] at hb2
    cases hb2
    have hlen2 : (cs ++ new).length = g + m * es' := by simp [hg, hlen]
    intro type pos after guard next Q hkk
    unfold Oper.wp
    by_cases hfit : n + m ≤ cap
    · rcases hcase hg with ⟨h0g, hxa, arr, ty, harr, hcap⟩ | ⟨hn0, hc0⟩
      · subst hxa
        have hle : cs.length ≤ arr.size := by
          have := Nat.mul_le_mul_right es' hn2
          omega
        have hl2 : n * es' + news.length ≤ arr.size := by
          have := Nat.mul_le_mul_right es' hfit
          rw [Nat.add_mul] at this
          omega
        have hr := run_append_room_row (P := P) t tx type e ht hsz (φ b) n cap (act.eval y) m news src hfit harr hl2
        rw [oper_append hc hat har (by rw [hxv]; exact hr)]
        generalize harr' : (arr.toList.take (n * es') ++ news ++ arr.toList.drop (n * es' + news.length)).toArray = arr'
        have hsz' : arr'.size = arr.size := by
          rw [← harr']; simp only [List.size_toArray, List.length_append, List.length_take, List.length_drop, Array.length_toList]; omega
        have hcne : cs ≠ [] := by intro e; subst e; simp at hg; omega
        obtain ⟨arr2, ty2, harr2, hrow⟩ := f.st.sr.blk b cs hb hcne
        rw [harr] at harr2
        cases harr2
        obtain ⟨_, post⟩ := f_wrH f hb hcne (cs' := cs ++ new) (by simp) harr hsz' (fun j a hj => by
          rw [List.getElem?_append] at hj
          split at hj
          · rename_i hjl
            obtain ⟨v, hv, hr⟩ := hrow j a hj
            refine ⟨v, ?_, hr⟩
            rw [← harr']
            simp only [List.getElem?_toArray, List.append_assoc]
            rw [List.getElem?_append_left (by simp; omega), List.getElem?_take, if_pos (by omega)]
            simpa using hv
          · rename_i hjl
            obtain ⟨v, hv, hr⟩ := hnew.get hj
            have hvl : j - cs.length < news.length := (List.getElem?_eq_some_iff.1 hv).1
            refine ⟨v, ?_, hr⟩
            rw [← harr']
            simp only [List.getElem?_toArray, List.append_assoc]
            have ht : (arr.toList.take (n * es')).length = n * es' := by simp; omega
            rw [List.getElem?_append_right (by omega), ht, List.getElem?_append_left (by omega), hng, ← hg]
            exact hv)
        have hkw := setRow_heap w (φ b) arr arr' ty (0, 0) harr
        refine hkk _ _ (post hd hp (VRel.one (.hs b (g + m * es') 0 (n + m) es' (cs ++ new) _ cap hself (by omega) hfit (fun h => by cases h) (fun _ => .inl ⟨by omega, rfl, arr', ty, hkw, by omega⟩))))
      · subst hn0; subst hc0
        have hm0 : m = 0 := by omega
        subst hm0
        have hnil : new = [] := List.eq_nil_of_length_eq_zero (by omega)
        subst hnil
        have hnil2 : news = [] := List.eq_nil_of_length_eq_zero (by omega)
        subst hnil2
        rw [oper_append hc hat har (by rw [hxv]; exact run_append_same t tx type e ht hsz xa 0 _ src)]
        have hsame : H.set b (.cells (cs ++ [])) = H := by
          rw [List.append_nil]
          apply List.ext_getElem?
          intro j
          rw [List.getElem?_set]
          split
          · rename_i hj
            subst hj
            exact hb.symm
          · rfl
        rw [hsame] at hkk
        refine hkk _ _ (f_pure f hd hp (VRel.one (.hs b (g + 0 * es') 0 (0 + 0) es' cs xa 0 hb (by omega) (Nat.le_refl _) (fun _ => rfl) (fun _ => .inr ⟨rfl, rfl⟩))))
    · have holds : ∃ olds : List Value, (Builtin.firstCells i.size n (.slice xa n cap)).run P w.drew = .ok olds.toArray w.drew ∧ CL φ F H w cs olds := by
        rcases hcase hg with ⟨h0g, hxa, arr, ty, harr, hcap⟩ | ⟨hn0, hc0⟩
        · subst hxa
          have hcne : cs ≠ [] := by intro e; subst e; simp at hg; omega
          have hrow := (f.st.sr.blk b cs hb hcne).row
          obtain ⟨olds, h3, h2, h1⟩ := hrow.range (off := 0) (n := cs.length) (by omega)
          refine ⟨olds, run_firstCells_some w.drew _ n _ n cap olds (by rw [hik]; omega) (fun j v hv => ?_), by simpa using h3⟩
          have := h2 j v hv
          rw [add_none]
          simpa using this
        · subst hn0
          have hcn : cs = [] := List.eq_nil_of_length_eq_zero (by omega)
          subst hcn
          refine ⟨[], ?_, rfl, fun i a v ha => by simp at ha⟩
          cases xa with
          | none => exact run_firstCells_none w.drew _ _ _ _
          | some a => exact run_firstCells_some w.drew _ 0 a 0 cap [] (by simp) (fun j v hv => by simp at hv)
      obtain ⟨olds, hold, holdc⟩ := holds
      have hr := run_append_grow_src w t tx type e i zv ht hi hzv xa n cap olds hold (act.eval y) m news src' (by omega) (fits_len hb0 hroom) (growslice_fits (by omega) (by rw [hib]; unfold room at hroom; exact hroom))
      rw [oper_append hc hat har (by rw [hxv]; exact hr)]
      have hcap := grownCap_ge w (n + m) cap e
      generalize hcapv : grownCap w (n + m) cap e = cap2 at hcap
      generalize harr : ((olds ++ news).toArray ++ Builtin.zeroCells zv.cells (cap2 - (n + m))) = arr
      have hbw : Below w.heap.size w (w.drew.alloc (.cells arr e)) := (Below.refl w.heap.size w).drew.alloc (Nat.le_refl _) _
      have hnw : (w.drew.alloc (.cells arr e)).heap[w.heap.size]? = some (.cells arr e (0, 0)) := heap_alloc_new w.drew _
      have hm0 : 0 < m := by omega
      have hol := holdc.1
      have hasz : arr.size = cap2 * es' := by
        rw [← harr, Array.size_append, zeroCells_size, hzs]
        simp only [List.size_toArray, List.length_append]
        rw [hnl, hlen, hol, hg, ← hng, ← Nat.add_mul, ← Nat.add_mul]
        congr 1; omega
      have hmpos : 0 < m * es' := Nat.mul_pos hm0 hes
      have hall : CL φ F H w (cs ++ new) (olds ++ news) := holdc.append hnew
      refine hkk _ _ (f_move f hb (cs' := cs ++ new) (by simp; omega) hbw (Nat.le_refl _) hnw (fun j a hj => ?_) hd hp (fun φ' hφ => ?_))
      · obtain ⟨u, hu, hr⟩ := hall.get hj
        refine ⟨u, ?_, hr⟩
        have hlt : j < (olds ++ news).length := (List.getElem?_eq_some_iff.1 hu).1
        rw [← harr, Array.getElem?_append_left (by simpa using hlt)]
        simpa using hu
      · exact VRel.one (.hs b (g + m * es') 0 (n + m) es' (cs ++ new) _ cap2 hself (by omega) hcap (fun h => by cases h) (fun _ => .inl ⟨by omega, by rw [hφ], arr, e, by rw [hφ]; exact hnw, by omega⟩))
  · simp at h
end
end Go.Hm
