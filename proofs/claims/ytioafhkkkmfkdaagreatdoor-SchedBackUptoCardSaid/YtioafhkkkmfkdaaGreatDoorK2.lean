/- The abstract machine: operations: picks, maps, slices of a length, comparisons of structs and interfaces. The abstract machine: operations on slices of one's own that have slices within. The abstract machine: slices of one's own, built of parts that have slices within. The abstract machine: append over slices of one's own that have slices within. The abstract machine: bytes: a string appended to a slice of bytes; bytes as a string, a string as bytes. The abstract machine: copy. -/
import Derived.Test.YtioafhkkkmfkdaaGreatDoorK1
import Derived.Laws.StructEq
import Derived.Lib.AppendStr
import Derived.Lib.ConvBytes
import Derived.Laws.BytesArg
set_option linter.all false

namespace Go.Proofs.YtioafhkkkmfkdaaGreatDoor.am
open Go
set_option linter.unusedSimpArgs false
section
variable {P : Program} {T : Ty} {o : Oper} {m : Mem} {nh : Nat} {ev : Operand → Option AV} {K : KK}
theorem l_pick {c x y : Operand} {b : Bool} (ho : o.op = .pick c x y) (hc : ev c = some (.tr (.v (.bool b)))) (h : cond b (match ev x with | some a => K a [] [] | none => False) (match ev y with | some a => K a [] [] | none => False)) : LOk P o m nh ev K := by
  cases b with
  | true =>
    rw [cond_true] at h
    split at h
    case h_2 => exact h.elim
    rename_i a e
    refine LOk.pure _ _ h (by simp) fun g w m' ρ hm hrd hev => ⟨_, ?_, hev _ _ e⟩
    simp [execOp, ho, (val_inv (hev _ _ hc)).1, asBool]
  | false =>
    rw [cond_false] at h
    split at h
    case h_2 => exact h.elim
    rename_i a e
    refine LOk.pure _ _ h (by simp) fun g w m' ρ hm hrd hev => ⟨_, ?_, hev _ _ e⟩
    simp [execOp, ho, (val_inv (hev _ _ hc)).1, asBool]
theorem l_makeMap {t : Nat} {kd : D} (ho : o.op = .makeMap t none) (hK : K (.mp nh) [] [(nh, some (.map kd []))]) : LOk P o m nh ev K := by
  refine ⟨_, _, _, hK, by simp, by simp, fun g w m' ρ hm hn hrd hev => ?_⟩
  refine LRes.new hm hn (.map #[] 0) (.blk w.heap.size) (fun b e => by cases e; rfl) _ (.map (some w.heap.size)) ?_ (fun _ => ⟨_, _, _, rfl, heap_alloc_new w _, rfl, by simp, by simp⟩) (.mp (gset_same ..))
  simp [execOp, ho, Instr.makeMap]
theorem l_makeSlice (hT : TOk P T) {t : Nat} {l c : Operand} {lz cz : Int} {k k' : IntKind} (ho : o.op = .makeSlice t l c) (hl : ev l = some (.tr (.v (.int k lz)))) (hc : ev c = some (.tr (.v (.int k' cz)))) (h : amakeSlice T nh t lz cz K) : LOk P o m nh ev K := by
  unfold amakeSlice at h
  split at h
  case h_2 => exact h.elim
  rename_i e s1 s2 s3 s4 e1
  split at h
  case h_2 => exact h.elim
  rename_i te e2
  cases hb : (Nat.ble 1 te.size && Nat.ble 1 te.bytes) with
  | false => rw [hb] at h; exact h.elim
  | true =>
  rw [hb, cond_true] at h
  simp only [Bool.and_eq_true] at hb
  have hs1 := Nat.le_of_ble_eq_true hb.1
  have hb1 := Nat.le_of_ble_eq_true hb.2
  obtain ⟨h0, h1, h2, hK⟩ := h
  refine ⟨_, _, _, hK, by simp, by simp, fun g w m' ρ hm hn hrd hev => ?_⟩
  obtain ⟨u, u1, u2, _⟩ := run_und hT e1 w
  obtain rfl := D_slice u2
  obtain ⟨ti', u', z', i1, _, _, i4, i5, i6, i7, i8⟩ := hT.info e2
  have hz := (zcells_cells i7).1
  have hzs : z'.cells.size = te.size := by rw [hz]; simpa using i8
  have hcb : cz ≤ 140737488351232 := by
    have : cz * 1 ≤ cz * te.bytes := Int.mul_le_mul_of_nonneg_left (by omega) (by omega)
    omega
  obtain ⟨hlv, _⟩ := val_inv (hev _ _ hl)
  obtain ⟨hcv, _⟩ := val_inv (hev _ _ hc)
  have w1 : IntKind.i64.wrap lz = lz := by
    simp only [IntKind.wrap, IntKind.signed, IntKind.bits, Bool.true_and, Nat.reduceSub, Int.reducePow]
    split
    · rename_i h; have := of_decide_eq_true h; omega
    · rename_i h; have : ¬ _ := fun e => h (decide_eq_true e); omega
  have w2 : IntKind.i64.wrap cz = cz := by
    simp only [IntKind.wrap, IntKind.signed, IntKind.bits, Bool.true_and, Nat.reduceSub, Int.reducePow]
    split
    · rename_i h; have := of_decide_eq_true h; omega
    · rename_i h; have : ¬ _ := fun e => h (decide_eq_true e); omega
  obtain ⟨cn, rfl⟩ := Int.eq_ofNat_of_zero_le (show 0 ≤ cz by omega)
  obtain ⟨ln, rfl⟩ := Int.eq_ofNat_of_zero_le h0
  have hlc : ln ≤ cn := by omega
  have hmul : cn * te.bytes ≤ 140737488351232 := by
    have : ((cn * te.bytes : Nat) : Int) ≤ 140737488351232 := by rw [Int.natCast_mul]; exact h2
    omega
  have hsm : ∀ n : Nat, n ≤ cn → ¬ ((ti'.bytes : Int) * (n : Int) > 281474976710656) := fun n hn => by
    have e3 : (ti'.bytes : Int) * (n : Int) = ((n * te.bytes : Nat) : Int) := by rw [i5, Int.natCast_mul, Int.mul_comm]
    have : n * te.bytes ≤ cn * te.bytes := Nat.mul_le_mul_right _ hn
    rw [e3]; omega
  generalize hcl : (Array.range (cn * te.size)).map (z'.cells[· % z'.cells.size]!) = cl
  have hclsz : cl.size = cn * te.size := by rw [← hcl]; simp
  have hloc : ∀ b, Loc.b (.row w.heap.size cn) = some b → b = w.heap.size := fun b e => by cases e; rfl
  have hg := grow_alloc (w := w) hm.xlt hn (.cells cl e) hloc
  refine LRes.new hm hn (.cells cl e) (.row w.heap.size cn) hloc _ (.slice (some ⟨w.heap.size, 0, none⟩) ln cn) ?_ (fun _ => ⟨?_, by omega, .inr ⟨_, cn, cl, rfl, heap_alloc_new w _, by simpa using hlc, by omega, hclsz, fun row hr => ?_, fun i t hi => ?_⟩⟩) (.sl (gset_same ..) hlc)
  · have hrun : (Instr.makeSlice t (.int k (ln : Int)) (.int k' (cn : Int))).run P w = .ok (.slice (some ⟨w.heap.size, 0, none⟩) ln cn) (w.alloc (.cells cl e)) := by
      have q1 := hsm cn (Nat.le_refl _)
      have q2 : ¬ (ln : Int) > cn := by omega
      have q3 : ¬ (cn : Int) < 0 := by omega
      have q4 : ¬ (ln : Int) < 0 := by omega
      by_cases hz0 : cn * te.size = 0
      · have hcl0 : cl = #[] := by rw [← hcl, hz0]; simp
        subst hcl0
        simp only [Instr.makeSlice, Sem.run_bind, u1, Result.andThen_ok, asInt, asIntOf, Sem.run_pure, typeInfo, run_program, i1]
        simp [w1, w2, q1, q2, q3, q4, sizeOf, typeInfo, i1, i4, hz0, newRow]
        rw [show (Array.map (fun _ => (default : Value)) (Array.range 0)) = #[] by simp]
      · simp only [Instr.makeSlice, Sem.run_bind, u1, Result.andThen_ok, asInt, asIntOf, Sem.run_pure, typeInfo, run_program, i1]
        simp [w1, w2, q1, q2, q3, q4, sizeOf, typeInfo, i1, i4, hz0, zeroValue, i6, newRow, hcl]
    simp only [execOp, ho, Sem.run_bind, hlv, hcv]
    show ((Instr.makeSlice t (.int k (ln : Int)) (.int k' (cn : Int))).run P w).andThen _ = _
    rw [hrun]
    rfl
  · simp only [List.length_replicate, Int.toNat_natCast]
    have : ln * te.bytes ≤ cn * te.bytes := Nat.mul_le_mul_right _ hlc
    omega
  · rw [List.eq_of_mem_replicate hr]; simpa [ztrs] using i8
  · have hfl : ∀ (n : Nat) (r : List Tr) (i : Nat), (List.replicate n r).flatten[i]? = if i < n * r.length then r[i % r.length]? else none := by
      intro n r
      induction n with
      | zero => intro i; simp
      | succ n ih =>
        intro i
        rw [List.replicate_succ, List.flatten_cons]
        by_cases h1 : i < r.length
        · rw [List.getElem?_append_left h1, if_pos (by rw [Nat.succ_mul]; omega), Nat.mod_eq_of_lt h1]
        · rw [List.getElem?_append_right (by omega), ih]
          by_cases h2 : i < (n + 1) * r.length
          · rw [if_pos (by rw [Nat.succ_mul] at h2; omega), if_pos h2, ← Nat.mod_eq_sub_mod (by omega)]
          · rw [if_neg (by rw [Nat.succ_mul] at h2; omega), if_neg h2]
    have hlen : (ztrs te.zero).length = te.size := by simpa [ztrs] using i8
    rw [hfl, hlen] at hi
    split at hi
    case isFalse => cases hi
    rename_i hilt
    simp only [Int.toNat_natCast] at hilt
    have hic : i < cn * te.size := Nat.lt_of_lt_of_le hilt (Nat.mul_le_mul_right _ hlc)
    simp only [ztrs, List.getElem?_map, Option.map_eq_some_iff] at hi
    obtain ⟨z, z1, rfl⟩ := hi
    refine ⟨z.val, ?_, .v (good_zero z)⟩
    rw [← hcl]
    have hmod : i % te.size < te.zero.length := by rw [i8]; exact Nat.mod_lt _ (by omega)
    simp only [Array.getElem?_map, Array.getElem?_range, if_pos hic, Option.map_some, hzs]
    rw [hz]
    have z2 : te.zero[i % te.size]'hmod = z := by simpa [hmod] using z1
    congr 1
    rw [getElem!_pos _ _ (by simpa using hmod)]
    simp [z2]

/-! maps -/
theorem D_map {u : TypeDesc} {k e : Nat} (h : D.of u = .map k e) : u = .map k e := by
  cases u <;> first | (cases h; done) | (cases h; rfl)
theorem MK.of_val {v : Value} {q : MK} (h : MK.of v = some q) : v = q.val := by
  unfold MK.of at h
  split at h <;> first | (cases h; rfl) | cases h
theorem fits_und {u : TypeDesc} {kd : D} (h : D.of u = kd) {q : MK} (hf : q.fits kd = true) : (∃ a, q = .ks a ∧ u = .string) ∨ (∃ k n, q = .ki k n ∧ u = .int k) ∨ ∃ x, q = .kb x ∧ u = .bool := by
  subst h
  cases q with
  | ks a => cases u <;> first | exact .inl ⟨a, rfl, rfl⟩ | cases hf
  | ki k n => cases u <;> first | (simp only [D.of, MK.fits, decide_eq_true_eq] at hf; subst hf; exact .inr (.inl ⟨_, n, rfl, rfl⟩)) | cases hf
  | kb x => cases u <;> first | exact .inr (.inr ⟨x, rfl, rfl⟩) | cases hf
theorem run_checkKey {kt : Nat} {u : TypeDesc} (hu : P.underlying kt = some u) {q : MK} (hf : q.fits (D.of u) = true) (e : Bool) (w : World) : (Instr.checkKey e 10000 kt q.val).run P w = .ok () w := by
  show (Instr.checkKey e (9999 + 1) kt q.val).run P w = .ok () w
  generalize 9999 = n
  rcases fits_und rfl hf with ⟨a, rfl, rfl⟩ | ⟨k, n, rfl, rfl⟩ | ⟨x, rfl, rfl⟩ <;> simp [Instr.checkKey, run_underlying hu, MK.val]
theorem sameNow_ok {u : TypeDesc} {q k : MK} (hq : q.fits (D.of u) = true) (hk : k.fits (D.of u) = true) : Instr.sameNow u q.val k.val = some (q.same k) := by
  rcases fits_und rfl hq with ⟨a, rfl, rfl⟩ | ⟨k1, n, rfl, rfl⟩ | ⟨x, rfl, rfl⟩
  · rcases fits_und rfl hk with ⟨a', rfl, _⟩ | ⟨k2, n', rfl, h⟩ | ⟨x', rfl, h⟩
    · simp [Instr.sameNow, MK.val, MK.same, beq_toListBytes]
    · cases h
    · cases h
  · rcases fits_und rfl hk with ⟨a', rfl, h⟩ | ⟨k2, n', rfl, h⟩ | ⟨x', rfl, h⟩
    · cases h
    · cases h; simp [Instr.sameNow, MK.val, MK.same]
    · cases h
  · rcases fits_und rfl hk with ⟨a', rfl, h⟩ | ⟨k2, n', rfl, h⟩ | ⟨x', rfl, h⟩
    · cases h
    · cases h
    · simp [Instr.sameNow, MK.val, MK.same]
/-- where a key stands -/
def mfind : List (MK × Tr) → MK → Nat → Option Nat
  | [], _, _ => none
  | (k, _) :: r, q, i => bif MK.same q k then some i else mfind r q (i + 1)
theorem findNow_ok {ok : Nat → Prop} {w : World} {u : TypeDesc} {q : MK} (hq : q.fits (D.of u) = true) : ∀ (es : List (MK × Tr)) (ents : List MapEntry) (i : Nat), ents.length = es.length → (∀ p ∈ es, p.1.fits (D.of u) = true) →
    (∀ (j : Nat) (k : MK) (t : Tr), es[j]? = some (k, t) → ∃ en, ents[j]? = some en ∧ en.key = k.val ∧ RepT ok w en.val t) →
    ∃ r, Instr.findNow u q.val ents i = some r ∧ ((r = none ∧ mget es q = none ∧ mfind es q i = none) ∨ ∃ j v t, r = some (j, v) ∧ mfind es q i = some j ∧ mget es q = some t ∧ RepT ok w v t)
  | [], [], i, _, _, _ => ⟨none, rfl, .inl ⟨rfl, rfl, rfl⟩⟩
  | [], _ :: _, _, h, _, _ => by simp at h
  | _ :: _, [], _, h, _, _ => by simp at h
  | (k, t) :: es, en :: ents, i, hl, hf, he => by
    obtain ⟨en', h1, h2, h3⟩ := he 0 k t rfl
    simp at h1
    subst h1
    unfold Instr.findNow mget mfind
    rw [h2, sameNow_ok hq (hf (k, t) (by simp))]
    cases hs : q.same k with
    | true => exact ⟨_, rfl, .inr ⟨i, en.val, t, rfl, rfl, rfl, h3⟩⟩
    | false =>
      simp only [cond_false]
      exact findNow_ok hq es ents (i + 1) (by simpa using hl) (fun p hp => hf p (by simp [hp])) (fun j k' t' hj => by simpa using he (j + 1) k' t' (by simpa using hj))
theorem l_lookup (hT : TOk P T) {ty : Nat} {x i : Operand} {ok : Bool} {a : AV} {kv : Value} (ho : o.op = .lookup ty x i ok) (hx : ev x = some a) (hi : ev i = some (.tr (.v kv))) (h : alookup T m ty kv ok K a) : LOk P o m nh ev K := by
  unfold alookup at h
  split at h
  case h_2 => exact h.elim
  rename_i hd
  split at h
  case h_2 => exact h.elim
  rename_i k e s1 s2 s3 s4 kd es q e1 em eq
  split at h
  case h_2 => exact h.elim
  rename_i kd' d s6 s7 z s8 e2 e3
  cases hb : (decide (kd = kd') && q.fits kd && !d.agg) with
  | false => rw [hb] at h; exact h.elim
  | true =>
  rw [hb, cond_true] at h
  simp only [Bool.and_eq_true, decide_eq_true_eq, Bool.not_eq_true'] at hb
  obtain ⟨⟨rfl, hf⟩, hda⟩ := hb
  have main : ∀ (g : Gh) (w : World) (m' : Mem) (ρ : Operand → Value), MSt g w m' → (∀ p ∈ [(hd, Blk.map kd es)], m' p.1 = some p.2) → (∀ x b, ev x = some b → Rep g w (ρ x) b) →
      ∃ v, (Instr.lookup ty (ρ x) (ρ i) ok).run P w = .ok (if ok then .tuple #[v, .bool (mget es q).isSome] else v) w ∧ RepT (okB g w) w v ((mget es q).getD (.v z.val)) := by
    intro g w m' ρ hm hrd hev
    obtain ⟨lc, g1, b, ents, clock, rfl, b1, b2, b3, b4⟩ := hm.blk hd _ (hrd (hd, .map kd es) (by simp))
    have hv : ρ x = .map (some b) := by
      have hr := hev _ _ hx
      generalize ρ x = v at hr
      cases hr with
      | mpD e => rw [g1] at e; cases e
      | mp e => rw [g1] at e; cases e; rfl
    have hk : ρ i = q.val := (val_inv (hev _ _ hi)).1.trans (MK.of_val eq)
    obtain ⟨u, u1, u2, u3⟩ := run_und hT e1 w
    obtain rfl := D_map u2
    obtain ⟨uk, k1, k2⟩ := dOf_und hT e2
    subst k2
    have hck := run_checkKey k1 hf ents.isEmpty w
    obtain ⟨r, r1, r2⟩ := findNow_ok (ok := okB g w) (w := w) hf es ents.toList 0 (by simpa using b2) b3 (fun j k t hj => by simpa using b4 j k t hj)
    obtain ⟨zv, z1, z2, _, z4⟩ := run_zero hT e3 w
    have hzv : zv = z.val := by
      have hc : zv.cells = #[z.val] := by simpa using z2
      obtain ⟨ti', u', zt, q1, q2, q3, q4, q5, q6, q7, q8⟩ := hT.info e3
      have hzz : zt = zv := by
        have : (zeroValue e).run P w = .ok zt w := by simp [zeroValue, typeInfo, q1, q6]
        rw [z1] at this; cases this; rfl
      subst hzz
      unfold zcells at q7
      split at q7
      · -- an aggregate of one cell is none of ours
        rename_i hag
        rw [hda] at hag; cases hag
      · split at q7
        · cases q7
        · simp only [Option.map_eq_some_iff] at q7
          obtain ⟨z', h1, h2⟩ := q7
          cases h2
          exact Z.of_val h1
    have hgo : (getObj b).run P w = .ok (.map ents clock) w := by simp [getObj, Sem.run, b1]
    have hfk : (Instr.findKey k q.val ents.toList).run P w = .ok r w := by
      simp [Instr.findKey, run_underlying k1, r1]
    rcases r2 with ⟨rfl, m1, _⟩ | ⟨j, v, t, rfl, _, m1, m2⟩
    · refine ⟨z.val, ?_, by rw [m1]; exact .v (good_zero z)⟩
      rw [m1, hv, hk]
      cases ok <;> simp [Instr.lookup, u1, hgo, hck, hfk, z1, hzv]
    · refine ⟨v, ?_, by rw [m1]; exact m2⟩
      rw [m1, hv, hk]
      cases ok <;> simp [Instr.lookup, u1, hgo, hck, hfk]
  cases hok : ok with
  | true =>
    rw [hok, cond_true] at h
    refine LOk.pure _ _ h (by simpa using em) fun g w m' ρ hm hrd hev => ?_
    obtain ⟨v, v1, v2⟩ := main g w m' ρ hm hrd hev
    rw [hok, if_pos rfl] at v1
    refine ⟨_, by simp only [execOp, ho, hok, Sem.run_bind, v1, Result.andThen_ok]; rfl, .tup rfl fun j c b c1 c2 => ?_⟩
    match j with
    | 0 => simp at c1 c2; subst c1; subst c2; exact .tr v2
    | 1 => simp at c1 c2; subst c1; subst c2; exact .tr (.v trivial)
    | j + 2 => simp at c2
  | false =>
    rw [hok, cond_false] at h
    refine LOk.pure _ _ h (by simpa using em) fun g w m' ρ hm hrd hev => ?_
    obtain ⟨v, v1, v2⟩ := main g w m' ρ hm hrd hev
    rw [hok, if_neg (by simp)] at v1
    exact ⟨_, by simp only [execOp, ho, hok, Sem.run_bind, v1, Result.andThen_ok]; rfl, .tr v2⟩
theorem mput_none : ∀ {es : List (MK × Tr)} {q : MK} {x : Tr} {i : Nat}, mfind es q i = none → mput es q x = es ++ [(q, x)] := by
  intro es
  induction es with
  | nil => intro q x i _; rfl
  | cons p r ih =>
    obtain ⟨k, v⟩ := p
    intro q x i h
    unfold mfind at h
    unfold mput
    cases hs : q.same k with
    | true => rw [hs] at h; cases h
    | false => rw [hs] at h; rw [cond_false, ih h]; rfl
theorem mput_some : ∀ {es : List (MK × Tr)} {q : MK} {x : Tr} {i j : Nat}, mfind es q i = some j → ∃ d k t, j = i + d ∧ es[d]? = some (k, t) ∧ q.same k = true ∧ mput es q x = es.set d (q, x) := by
  intro es
  induction es with
  | nil => intro q x i j h; cases h
  | cons p r ih =>
    obtain ⟨k, v⟩ := p
    intro q x i j h
    unfold mfind at h
    unfold mput
    cases hs : q.same k with
    | true => rw [hs] at h; cases h; exact ⟨0, k, v, rfl, rfl, hs, rfl⟩
    | false =>
      rw [hs] at h
      obtain ⟨d, k', t', h1, h2, h3, h4⟩ := ih h (x := x)
      exact ⟨d + 1, k', t', by omega, h2, h3, by rw [cond_false, h4]; rfl⟩
theorem same_val {q k : MK} {u : TypeDesc} (hq : q.fits (D.of u) = true) (hk : k.fits (D.of u) = true) (h : q.same k = true) : k.val = q.val := by
  rcases fits_und rfl hq with ⟨a, rfl, rfl⟩ | ⟨k1, n, rfl, rfl⟩ | ⟨x, rfl, rfl⟩
  · rcases fits_und rfl hk with ⟨a', rfl, _⟩ | ⟨k2, n', rfl, h'⟩ | ⟨x', rfl, h'⟩
    · have h : (a.toList == a'.toList) = true := h
      have : a.data.toList = a'.data.toList := by
        rw [ByteArray.toList_eq, ByteArray.toList_eq] at h
        exact eq_of_beq h
      obtain ⟨⟨x⟩⟩ := a
      obtain ⟨⟨y⟩⟩ := a'
      simp only at this
      subst this
      rfl
    · cases h'
    · cases h'
  · rcases fits_und rfl hk with ⟨a', rfl, h'⟩ | ⟨k2, n', rfl, h'⟩ | ⟨x', rfl, h'⟩
    · cases h'
    · cases h'; have h : (n == n') = true := h; rw [eq_of_beq h]
    · cases h'
  · rcases fits_und rfl hk with ⟨a', rfl, h'⟩ | ⟨k2, n', rfl, h'⟩ | ⟨x', rfl, h'⟩
    · cases h'
    · cases h'
    · have h : (x == x') = true := h; rw [eq_of_beq h]
theorem sameBits_self (q : MK) (n : Nat) : Instr.sameBits n q.val q.val = true := by
  cases q with
  | ks a =>
    have : (a == a) = true := by rw [beq_toListBytes]; simp
    cases n <;> simp [Instr.sameBits, MK.val, this]
  | ki k z => cases n <;> simp [Instr.sameBits, MK.val]
  | kb x => cases n <;> simp [Instr.sameBits, MK.val]
theorem l_mapUpdate (hT : TOk P T) {ty : Nat} {x i y : Operand} {a b : AV} {kv : Value} (ho : o.op = .mapUpdate ty x i y) (hx : ev x = some a) (hi : ev i = some (.tr (.v kv))) (hy : ev y = some b) (h : amapUpdate T m ty kv b K a) : LOk P o m nh ev K := by
  unfold amapUpdate at h
  split at h
  case h_2 => exact h.elim
  rename_i hd
  split at h
  case h_2 => exact h.elim
  rename_i k e s1 s2 s3 s4 kd es q t e1 em eq
  split at h
  case h_2 => exact h.elim
  rename_i kd' e2
  cases hb : (decide (kd = kd') && q.fits kd) with
  | false => rw [hb] at h; exact h.elim
  | true =>
  rw [hb, cond_true] at h
  simp only [Bool.and_eq_true, decide_eq_true_eq] at hb
  obtain ⟨rfl, hf⟩ := hb
  refine ⟨_, _, _, h, by simpa using em, fun p hp => .inr ⟨(hd, .map kd es), by simp, by simp at hp; rw [hp]⟩, fun g w m' ρ hm hn hrd hev => ?_⟩
  obtain ⟨lc, g1, b, ents, clock, rfl, b1, b2, b3, b4⟩ := hm.blk hd _ (hrd (hd, .map kd es) (by simp))
  have hv : ρ x = .map (some b) := by
    have hr := hev _ _ hx
    generalize ρ x = v at hr
    cases hr with
    | mpD e => rw [g1] at e; cases e
    | mp e => rw [g1] at e; cases e; rfl
  have hk : ρ i = q.val := (val_inv (hev _ _ hi)).1.trans (MK.of_val eq)
  have hval := (hev _ _ hy).tr_inv
  obtain ⟨u, u1, u2, u3⟩ := run_und hT e1 w
  obtain rfl := D_map u2
  obtain ⟨uk, k1, k2⟩ := dOf_und hT e2
  subst k2
  have hck := run_checkKey k1 hf false w
  obtain ⟨r, r1, r2⟩ := findNow_ok (ok := okB g w) (w := w) hf es ents.toList 0 (by simpa using b2) b3 (fun j k t hj => by simpa using b4 j k t hj)
  have hgo : (getObj b).run P w = .ok (.map ents clock) w := by simp [getObj, Sem.run, b1]
  have hfk : (Instr.findKey k q.val ents.toList).run P w = .ok r w := by
    simp [Instr.findKey, run_underlying k1, r1]
  have hset : ∀ ob, (setObj b ob).run P w = .ok () { w with heap := w.heap.setIfInBounds b ob } := fun ob => by simp [setObj, Sem.run, b1]
  have hlt : b < w.heap.size := (Array.getElem?_eq_some_iff.1 b1).1
  -- what the store leaves
  have fin : ∀ (ents' : Array MapEntry) (clock' : Nat), (execOp ρ o).run P w = .ok .skip { w with heap := w.heap.setIfInBounds b (.map ents' clock') } → ents'.size = (mput es q t).length →
      (∀ (j : Nat) (k : MK) (tt : Tr), (mput es q t)[j]? = some (k, tt) → ∃ en, ents'[j]? = some en ∧ en.key = k.val ∧ RepT (okB g w) w en.val tt) → (∀ p ∈ mput es q t, p.1.fits (D.of uk) = true) → LRes P (execOp ρ o) g w m' nh [(hd, some (.map (D.of uk) (mput es q t)))] .und := by
    intro ents' clock' hrun hsz hen hfits
    have hko : ∀ j, j ≠ b → (w.heap.setIfInBounds b (.map ents' clock'))[j]? = w.heap[j]? := fun j hj => by
      rw [Array.getElem?_setIfInBounds_ne (Ne.symm hj)]
    have hg := grow_write (g := g) (h := hd) (b := b) (w := w) (w' := { w with heap := w.heap.setIfInBounds b (.map ents' clock') }) (hm.xl hd b (.root g1 rfl)) (.root g1 rfl) rfl rfl rfl (by simp) hko
    refine ⟨g, _, .inr ⟨hrun, rfl⟩, mst_write hm g1 (.inl rfl) hg (by simp) hko ⟨b, ents', clock', rfl, ?_, hsz, hfits, fun j k tt hj => ?_⟩, hg, fun _ _ h => h⟩
    · show (w.heap.setIfInBounds b _)[b]? = _
      simp [hlt]
    · obtain ⟨en, c1, c2, c3⟩ := hen j k tt hj
      exact ⟨en, c1, c2, c3.grow hg⟩
  rcases r2 with ⟨rfl, _, m1⟩ | ⟨j, v, t', rfl, m1, _, _⟩
  · have hmp := mput_none (x := t) m1
    refine fin (ents.push { key := q.val, val := ρ y, born := clock }) (clock + 1) ?_ (by rw [hmp]; simp [b2]) (fun j kk tt hj => ?_) fun p hp => ?_
    · simp [execOp, ho, hv, hk, Instr.mapUpdate, u1, hgo, hck, hfk, hset]
    · rw [hmp] at hj
      by_cases hjl : j < es.length
      · rw [List.getElem?_append_left hjl] at hj
        obtain ⟨en, c1, c2, c3⟩ := b4 j kk tt hj
        exact ⟨en, by rw [Array.getElem?_push, if_neg (by omega)]; exact c1, c2, c3⟩
      · rw [List.getElem?_append_right (by omega)] at hj
        have hj0 : j - es.length = 0 := by
          have := (List.getElem?_eq_some_iff.1 hj).1
          simp at this; omega
        rw [hj0] at hj
        simp at hj
        obtain ⟨rfl, rfl⟩ := hj
        exact ⟨_, by rw [Array.getElem?_push, if_pos (by omega)], rfl, hval⟩
    · rw [hmp] at hp
      simp only [List.mem_append, List.mem_singleton] at hp
      rcases hp with hp | rfl
      · exact b3 p hp
      · exact hf
  · obtain ⟨d, k0, t0, d1, d2, d3, hmp⟩ := mput_some (x := t) m1
    have d1 : j = d := by omega
    subst d1
    obtain ⟨en0, c1, c2, c3⟩ := b4 j k0 t0 d2
    have hkk : k0.val = q.val := same_val hf (b3 (k0, t0) (List.mem_of_getElem? d2)) d3
    have hkey : ((ents[j]?).map (·.key)).getD q.val = q.val := by rw [c1]; simp [c2, hkk]
    refine fin (ents.modify j fun e => { e with key := q.val, val := ρ y }) clock ?_ (by rw [hmp]; simp [b2]) (fun i' kk tt hj => ?_) fun p hp => ?_
    · have hst : (Instr.keyThatStays q.val q.val).run P w = .ok q.val w := by
        unfold Instr.keyThatStays
        rw [if_pos (sameBits_self q _)]
        rfl
      simp only [execOp, ho, hv, hk, Instr.mapUpdate, Sem.run_bind, u1, Result.andThen_ok, hgo, hck, hfk, hkey, hst, hset, Sem.run_pure]
    · rw [hmp, List.getElem?_set] at hj
      rw [Array.getElem?_modify]
      split at hj
      · rename_i hji
        subst hji
        split at hj
        · simp at hj
          obtain ⟨rfl, rfl⟩ := hj
          rw [if_pos rfl, c1]
          exact ⟨_, rfl, rfl, hval⟩
        · cases hj
      · rename_i hji
        rw [if_neg hji]
        exact b4 i' kk tt hj
    · rw [hmp] at hp
      rcases List.mem_or_eq_of_mem_set hp with hp | rfl
      · exact b3 p hp
      · exact hf
/-! structs against each other -/
theorem seqS_ok (hT : TOk P T) {g : Gh} {w : World} {xs ys : Array Value} (d : Nat) : ∀ (F : List Field) (i : Nat) (l l' : List AV) (b : Bool), seqS T (F.map fun f => (f.type, f.offset)) i l l' = some b → (∀ f ∈ F, f.name ≠ "_") →
    (∀ (j : Nat) (a : AV), l[j]? = some a → ∃ c, xs[i + j]? = some c ∧ Rep g w c a) → (∀ (j : Nat) (a : AV), l'[j]? = some a → ∃ c, ys[i + j]? = some c ∧ Rep g w c a) → (Op.eqFields (d + 1) xs ys F).run P w = .ok b w := by
  intro F
  induction F with
  | nil =>
    intro i l l' b h _ _ _
    cases l with
    | nil => cases l' with
      | nil => cases h; rfl
      | cons => cases h
    | cons => cases l' <;> cases h
  | cons f F ih =>
    intro i l l' b h hn hl hl'
    cases l with
    | nil => cases h
    | cons a l =>
    cases l' with
    | nil => cases a <;> first | cases h | (rename_i t; cases t <;> cases h)
    | cons a' l' =>
    cases a with
    | tr t =>
      cases t with
      | v x =>
        cases a' with
        | tr t' =>
          cases t' with
          | v y =>
            simp only [List.map_cons] at h
            unfold seqS at h
            cases hb : Nat.beq f.offset i with
            | false => rw [hb] at h; cases h
            | true =>
            rw [hb, cond_true] at h
            have hoff := Nat.eq_of_beq_eq_true hb
            obtain ⟨cx, c1, c2⟩ := hl 0 _ rfl
            obtain ⟨cy, d1, d2⟩ := hl' 0 _ rfl
            rw [(val_inv c2).1] at c1
            rw [(val_inv d2).1] at d1
            have ih' : ∀ r, seqS T (F.map fun f => (f.type, f.offset)) (i + 1) l l' = some r → (Op.eqFields (d + 1) xs ys F).run P w = .ok r w := fun r hr =>
              ih (i + 1) l l' r hr (fun f hf => hn f (by simp [hf])) (fun j a hj => by rw [show i + 1 + j = i + (j + 1) by omega]; exact hl (j + 1) a (by simpa using hj)) (fun j a hj => by rw [show i + 1 + j = i + (j + 1) by omega]; exact hl' (j + 1) a (by simpa using hj))
            have step : ∀ (u : TypeDesc) (e : Bool), P.underlying f.type = some u → (∀ fs, u ≠ .struct fs) → (∀ n e, u ≠ .array n e) → (Op.equalIn (d + 1) f.type x y).run P w = .ok e w → ∀ r, seqS T (F.map fun f => (f.type, f.offset)) (i + 1) l l' = some r → (Op.eqFields (d + 1) xs ys (f :: F)).run P w = .ok (e && r) w := by
              intro u e hu hns hna he r hr
              have hpart : ∀ (zs : Array Value) (z : Value), zs[i]? = some z → (part f.type zs f.offset).run P w = .ok z w := fun zs z hz => by
                have hag : (isAgg f.type).run P w = .ok false w := by
                  unfold isAgg
                  rw [Sem.run_bind, run_underlying hu w]
                  cases u <;> first | rfl | exact absurd rfl (hns _) | exact absurd rfl (hna _ _)
                unfold part
                simp only [Sem.run_bind, hag, Result.andThen_ok, Bool.false_eq_true, if_false, hoff, hz, Sem.run_pure]
              unfold Op.eqFields
              rw [if_pos (hn f (by simp))]
              simp only [Sem.run_bind, hpart xs x (by simpa using c1), hpart ys y (by simpa using d1), Result.andThen_ok, he]
              cases e with
              | true => simp [ih' r hr]
              | false => simp
            split at h
            · rename_i q k n k' n' hd
              by_cases hk : k = k'
              · subst hk
                rw [if_pos rfl] at h
                split at h
                · rename_i r hr
                  cases h
                  obtain ⟨u, u1, u2⟩ := dOf_und hT hd
                  obtain rfl := D_int u2
                  exact step _ _ u1 (fun _ => by simp) (fun _ _ => by simp) (run_equalIn_int w d _ _ _ _ _ u1) r hr
                · cases h
              · rw [if_neg hk] at h; cases h
            · rename_i a1 a2 hd
              split at h
              · rename_i r hr
                cases h
                obtain ⟨u, u1, u2⟩ := dOf_und hT hd
                obtain rfl := D_string u2
                exact step _ _ u1 (fun _ => by simp) (fun _ _ => by simp) (run_equalIn_string w d _ _ _ u1) r hr
              · cases h
            · rename_i a1 a2 hd
              split at h
              · rename_i r hr
                cases h
                obtain ⟨u, u1, u2⟩ := dOf_und hT hd
                obtain rfl := D_bool u2
                exact step _ _ u1 (fun _ => by simp) (fun _ _ => by simp) (run_equalIn_bool' w d _ _ _ u1) r hr
              · cases h
            · cases h
          | lst => cases h
        | _ => cases h
      | lst => cases a' <;> cases h
    | _ => cases h
theorem aeqS_ok (hT : TOk P T) {t : Nat} {l l' : List AV} {b : Bool} (h : aeqS T t l l' = some b) {g : Gh} {w : World} {xs ys : Array Value} (hx : Cells g w xs l) (hy : Cells g w ys l') (xo yo : Operand) :
    (do eqGuard .eql t xo yo (.agg xs) (.agg ys); binOp .eql t (.agg xs) (.agg ys) : Sem Value).run P w = .ok (.bool b) w ∧ (do eqGuard .neq t xo yo (.agg xs) (.agg ys); binOp .neq t (.agg xs) (.agg ys) : Sem Value).run P w = .ok (.bool !b) w := by
  unfold aeqS at h
  split at h
  case h_2 => cases h
  rename_i fs s1 s2 s3 e1
  obtain ⟨ti, u, z, q1, q2, q3, _⟩ := hT.info e1
  have hq : eqOf P t u = true := by
    have := (hT t _ e1).1
    unfold tyOf at this
    rw [q1, q2] at this
    simp only at this
    split at this
    case h_2 => cases this
    split at this
    case h_2 => cases this
    split at this
    · simp only [Option.some.injEq, TyI.mk.injEq] at this
      exact this.2.2.2.2
    · cases this
  obtain ⟨fds, rfl, rfl⟩ := D_struct q3
  unfold eqOf at hq
  simp only [Bool.and_eq_true, Bool.not_eq_true'] at hq
  obtain ⟨⟨hs, hgd⟩, hnm⟩ := hq
  have hfd : P.fieldsOf t = fds := by simp [Program.fieldsOf, q2]
  have hag := fun op => run_eqGuard_agg (P := P) w op t xo yo xs ys hgd
  have heq := run_equalIn_struct (P := P) w 9999 t xs ys (by rw [hfd]; exact q2) hs
  have hgo := seqS_ok hT (g := g) (w := w) (xs := xs) (ys := ys) 9998 fds.toList 0 l l' b h (fun f hf => by
    have := Array.all_eq_true'.1 hnm f (by simpa using hf)
    simpa using this) (fun j a hj => by rw [Nat.zero_add]; exact get_cells hx hj) (fun j a hj => by rw [Nat.zero_add]; exact get_cells hy hj)
  rw [hfd, hgo] at heq
  constructor
  · simp only [Sem.run_bind, hag, Result.andThen_ok, run_eql_struct, heq]
  · simp only [Sem.run_bind, hag, Result.andThen_ok, run_neq_struct, heq]
theorem l_eqS (hT : TOk P T) {op : BinOp} {ty ty2 : Nat} {x y : Operand} {l l' : List AV} {b r : Bool} (ho : o.op = .binOp op ty x y ty2) (hx : ev x = some (.agg l)) (hy : ev y = some (.agg l')) (h : aeqS T ty l l' = some b) (hop : (op = .eql ∧ r = b) ∨ (op = .neq ∧ r = !b))
    (hK : K (.tr (.v (.bool r))) [] []) : LOk P o m nh ev K := by
  refine LOk.pure _ _ hK (by simp) fun g w m' ρ hm hrd hev => ?_
  have hcells : ∀ (v : Value) (l : List AV), Rep g w v (.agg l) → ∃ cs, v = .agg cs ∧ Cells g w cs l := fun v l hr => by
    cases hr with
    | agg h1 h2 h3 => exact ⟨_, rfl, h1, h2, h3⟩
  obtain ⟨xs, e1, c1⟩ := hcells _ _ (hev _ _ hx)
  obtain ⟨ys, e2, c2⟩ := hcells _ _ (hev _ _ hy)
  obtain ⟨r1, r2⟩ := aeqS_ok hT h c1 c2 x y
  refine ⟨.bool r, ?_, .tr (.v trivial)⟩
  simp only [Sem.run_bind] at r1 r2
  rcases hop with ⟨rfl, rfl⟩ | ⟨rfl, rfl⟩
  · simp only [execOp, ho, e1, e2, Sem.run_bind, r1, Result.andThen_ok, Sem.run_pure]
  · simp only [execOp, ho, e1, e2, Sem.run_bind, r2, Result.andThen_ok, Sem.run_pure]
theorem D_iface {u : TypeDesc} (h : D.of u = .iface) : ∃ ms, u = .interface ms := by
  cases u <;> first | (cases h; done) | exact ⟨_, rfl⟩
theorem l_eqNil (hT : TOk P T) {t : Nat} (hlt : t < HMod) {op : BinOp} {ty ty2 : Nat} {x y : Operand} {a : AV} {r : Bool} (ho : o.op = .binOp op ty x y ty2) (hx : ev x = some (.ifc t a)) (hy : ev y = some (.tr (.v .nilIface))) (hd : dOf T ty = some .iface) (hop : (op = .eql ∧ r = false) ∨ (op = .neq ∧ r = true))
    (hK : K (.tr (.v (.bool r))) [] []) : LOk P o m nh ev K := by
  refine LOk.pure _ _ hK (by simp) fun g w m' ρ hm hrd hev => ?_
  obtain ⟨u, u1, u2⟩ := dOf_und hT hd
  obtain ⟨ms, rfl⟩ := D_iface u2
  have e2 := (val_inv (hev _ _ hy)).1
  have hr := hev _ _ hx
  generalize hv : ρ x = v at hr
  cases hr with
  | bnd _ hr => omega
  | psl hr => omega
  | win hr => omega
  | ifc _ hr =>
    rename_i xv _
    have heq : (Op.equal ty (.iface t xv) .nilIface).run P w = .ok false w := by
      show (Op.equalIn (9999 + 1) ty (.iface t xv) .nilIface).run P w = .ok false w
      generalize 9999 = n
      simp [Op.equalIn, run_underlying u1]
    refine ⟨.bool r, ?_, .tr (.v trivial)⟩
    rcases hop with ⟨rfl, rfl⟩ | ⟨rfl, rfl⟩
    · simp [execOp, ho, hv, e2, eqGuard, binOp, heq]
    · simp [execOp, ho, hv, e2, eqGuard, binOp, heq]
theorem D_ptr {u : TypeDesc} {e : Nat} (h : D.of u = .ptr e) : u = .pointer e := by
  cases u <;> first | (cases h; done) | (cases h; rfl)
theorem l_nilB (hT : TOk P T) {op : BinOp} {ty ty2 : Nat} {x y : Operand} {a b : Value} {r : Bool} (ho : o.op = .binOp op ty x y ty2) (hx : ev x = some (.tr (.v a))) (hy : ev y = some (.tr (.v b))) (hd : nilB (dOf T ty) y a b = true) (hop : (op = .eql ∧ r = true) ∨ (op = .neq ∧ r = false))
    (hK : K (.tr (.v (.bool r))) [] []) : LOk P o m nh ev K := by
  refine LOk.pure _ _ hK (by simp) fun g w m' ρ hm hrd hev => ?_
  have e1 := (val_inv (hev _ _ hx)).1
  have e2 := (val_inv (hev _ _ hy)).1
  unfold nilB at hd
  split at hd
  · split at hd
    case h_2 => cases hd
    rename_i v hd'
    obtain ⟨u, u1, u2⟩ := dOf_und hT hd'
    obtain ⟨ms, rfl⟩ := D_iface u2
    have heq : (Op.equal ty .nilIface .nilIface).run P w = .ok true w := by
      show (Op.equalIn (9999 + 1) ty .nilIface .nilIface).run P w = .ok true w
      generalize 9999 = n
      simp [Op.equalIn, run_underlying u1]
    refine ⟨.bool r, ?_, .tr (.v trivial)⟩
    rcases hop with ⟨rfl, rfl⟩ | ⟨rfl, rfl⟩
    · simp [execOp, ho, e1, e2, eqGuard, binOp, heq]
    · simp [execOp, ho, e1, e2, eqGuard, binOp, heq]
  · split at hd
    case h_2 => cases hd
    rename_i e hd'
    obtain ⟨u, u1, u2⟩ := dOf_und hT hd'
    obtain rfl := D_ptr u2
    have heq : (Op.equal ty (.pointer none) (.pointer none)).run P w = .ok true w := by
      show (Op.equalIn (9999 + 1) ty (.pointer none) (.pointer none)).run P w = .ok true w
      generalize 9999 = n
      simp [Op.equalIn, run_underlying u1]
    refine ⟨.bool r, ?_, .tr (.v trivial)⟩
    rcases hop with ⟨rfl, rfl⟩ | ⟨rfl, rfl⟩
    · simp [execOp, ho, e1, e2, eqGuard, binOp, heq]
    · simp [execOp, ho, e1, e2, eqGuard, binOp, heq]
  · cases hd
theorem l_ptrNil (hT : TOk P T) {op : BinOp} {ty ty2 e : Nat} {x y : Operand} {hd off : Nat} {b : Blk} {r : Bool} (ho : o.op = .binOp op ty x y ty2) (hx : ev x = some (.ptr hd off)) (hy : ev y = some (.tr (.v (.pointer none)))) (hde : dOf T ty = some (.ptr e)) (hm0 : m hd = some b) (hop : (op = .eql ∧ r = false) ∨ (op = .neq ∧ r = true))
    (hK : K (.tr (.v (.bool r))) [(hd, b)] []) : LOk P o m nh ev K := by
  refine LOk.pure _ _ hK (fun p hp => by simp at hp; subst hp; exact hm0) fun g w m' ρ hm hrd hev => ?_
  have e2 := (val_inv (hev _ _ hy)).1
  obtain ⟨u, u1, u2⟩ := dOf_und hT hde
  obtain rfl := D_ptr u2
  obtain ⟨l, g1, g2⟩ := hm.blk hd _ (hrd (hd, b) (by simp))
  have hr := hev _ _ hx
  generalize hv : ρ x = v at hr
  cases hr with
  | ptrD e => rw [g1] at e; cases e
  | ptr eq =>
    rename_i k
    have heq : (Op.equal ty (.pointer (some ⟨k, off, none⟩)) (.pointer none)).run P w = .ok false w := by
      show (Op.equalIn (9999 + 1) ty _ _).run P w = .ok false w
      generalize 9999 = n
      simp [Op.equalIn, run_underlying u1]
    refine ⟨.bool r, ?_, .tr (.v trivial)⟩
    rcases hop with ⟨rfl, rfl⟩ | ⟨rfl, rfl⟩
    · simp [execOp, ho, hv, e2, eqGuard, binOp, heq]
    · simp [execOp, ho, hv, e2, eqGuard, binOp, heq]
theorem l_typeAssert (hT : TOk P T) {t : Nat} (hlt : t < HMod) {x : Operand} {xt : Nat} {a : AV} {d : D} (ho : o.op = .typeAssert x xt t false) (hx : ev x = some (.ifc t a)) (hd : dOf T t = some d) (hni : d ≠ .iface) (hK : K a [] []) : LOk P o m nh ev K := by
  refine LOk.pure _ _ hK (by simp) fun g w m' ρ hm hrd hev => ?_
  obtain ⟨u, u1, u2⟩ := dOf_und hT hd
  have hr := hev _ _ hx
  generalize hv : ρ x = v at hr
  cases hr with
  | bnd _ hr => omega
  | psl hr => omega
  | win hr => omega
  | ifc _ hr =>
    rename_i xv _
    refine ⟨xv, ?_, hr⟩
    have : (Instr.typeAssert (.iface t xv) xt t false).run P w = .ok xv w := by
      unfold Instr.typeAssert
      simp only [Sem.run_bind, run_underlying u1, Result.andThen_ok]
      cases u <;> first | (exact absurd u2.symm hni) | simp
    simp only [execOp, ho, hv, Sem.run_bind, this, Result.andThen_ok]
    rfl
end
end Go.Proofs.YtioafhkkkmfkdaaGreatDoor.am

namespace Go.Proofs.YtioafhkkkmfkdaaGreatDoor.am
open Go
set_option linter.unusedSimpArgs false

/-! a cell's slice gets a handle of its own -/
def gfoc (g : Gh) (h nh : Nat) (l' : Loc) (Fo Fn : Nat → Prop) : Gh := ⟨fun k => if k = nh then .live l' else g k, g.X, [], fun k b => (k = nh ∧ Fn b) ∨ (k ≠ nh ∧ g.F k b ∧ (k = h → ¬ Fo b))⟩
theorem gfoc_new {g : Gh} {h nh : Nat} {l' : Loc} {Fo Fn : Nat → Prop} : gfoc g h nh l' Fo Fn nh = .live l' := by simp [gfoc]
theorem gfoc_ne {g : Gh} {h nh k : Nat} {l' : Loc} {Fo Fn : Nat → Prop} (hk : k ≠ nh) : gfoc g h nh l' Fo Fn k = g k := by simp [gfoc, hk]
theorem gfoc_Fnew {g : Gh} {h nh : Nat} {l' : Loc} {Fo Fn : Nat → Prop} : (gfoc g h nh l' Fo Fn).F nh = Fn := by funext b; simp [gfoc]
theorem gfoc_Fh {g : Gh} {h nh : Nat} {l' : Loc} {Fo Fn : Nat → Prop} (hk : h ≠ nh) : (gfoc g h nh l' Fo Fn).F h = fun b => g.F h b ∧ ¬ Fo b := by funext b; simp [gfoc, hk]
theorem gfoc_F {g : Gh} {h nh k : Nat} {l' : Loc} {Fo Fn : Nat → Prop} (hk : k ≠ nh) (hh : k ≠ h) : (gfoc g h nh l' Fo Fn).F k = g.F k := by funext b; simp [gfoc, hk, hh]
theorem gfoc_owns {g : Gh} {h nh k b : Nat} {l' : Loc} {Fo Fn : Nat → Prop} (hl' : ∀ b, l'.b = some b → Fo b) (hFn : ∀ b, Fn b → Fo b) (ho : Owns (gfoc g h nh l' Fo Fn) k b) :
    (k = nh ∧ Fo b) ∨ (k ≠ nh ∧ Owns g k b ∧ (k = h → ∀ l, g h = .live l → l.b ≠ some b → ¬ Fo b)) := by
  obtain ⟨l, e1, e2⟩ := ho
  by_cases hk : k = nh
  · subst hk
    rw [gfoc_new] at e1; cases e1
    rw [gfoc_Fnew] at e2
    exact .inl ⟨rfl, e2.elim (hl' b) (hFn b)⟩
  · rw [gfoc_ne hk] at e1
    change l.b = some b ∨ ((k = nh ∧ Fn b) ∨ (k ≠ nh ∧ g.F k b ∧ (k = h → ¬ Fo b))) at e2
    refine .inr ⟨hk, ⟨l, e1, ?_⟩, fun hh l1 q1 q2 => ?_⟩
    · rcases e2 with e2 | ⟨q, _⟩ | ⟨_, q, _⟩
      · exact .inl e2
      · exact absurd q hk
      · exact .inr q
    · subst hh
      rw [e1] at q1; cases q1
      rcases e2 with e2 | ⟨q, _⟩ | ⟨_, _, q⟩
      · exact absurd e2 q2
      · exact absurd q hk
      · exact q rfl
section
variable {g : Gh} {w : World} {m : Mem} {h nh : Nat} {l l' : Loc} {Fo Fn : Nat → Prop}
theorem grow_focus (hn : g nh = .un) (hl : g h = .live l) (hFo : ∀ b, Fo b → g.F h b) (hl' : ∀ b, l'.b = some b → Fo b) (hFn : ∀ b, Fn b → Fo b) : Grow g w (gfoc g h nh l' Fo Fn) w := by
  refine ⟨rfl, rfl, rfl, Nat.le_refl _, fun _ _ => rfl, fun _ _ => rfl, rfl, fun k hk => ?_, fun k lx hk => ?_, fun k b hk => ?_⟩
  · by_cases e : k = nh
    · subst e; exact absurd hn hk
    · rw [gfoc_ne e]; exact hk
  · by_cases e : k = nh
    · subst e; exact .inr hn
    · rw [gfoc_ne e] at hk; exact .inl hk
  · rcases gfoc_owns hl' hFn hk with ⟨_, q⟩ | ⟨_, q, _⟩
    · exact .inl ⟨h, l, hl, .inr (hFo b q)⟩
    · exact .inl ⟨k, q⟩
theorem mst_focus (hm : MSt g w m) (hn : g nh = .un) (hl : g h = .live l) (hFo : ∀ b, Fo b → g.F h b) (hroot : ∀ b, l.b = some b → ¬ Fo b) (hl' : ∀ b, l'.b = some b → Fo b) (hFn : ∀ b, Fn b → Fo b) {child parent : Blk}
    (hc : BRep (gfoc g h nh l' Fo Fn) w l' Fn child) (hp : BRep (gfoc g h nh l' Fo Fn) w l (fun b => g.F h b ∧ ¬ Fo b) parent) : MSt (gfoc g h nh l' Fo Fn) w (updM m [(nh, some child), (h, some parent)]) := by
  have hhn : h ≠ nh := fun e => by rw [e, hn] at hl; cases hl
  have hg := grow_focus (w := w) hn hl hFo hl' hFn
  refine ⟨fun k b hb => ?_, fun k k' b e1 e2 => ?_, fun k b e1 => ?_, hm.xlt, fun k b e1 => ?_, hm.gl.grow hg⟩
  · by_cases e : k = nh
    · subst e
      have : b = child := by simpa [updM, lk] using hb.symm
      subst this
      exact ⟨l', gfoc_new, by rw [gfoc_Fnew]; exact hc⟩
    · have e' : Nat.beq nh k = false := beq_ne fun q => e q.symm
      by_cases e2 : k = h
      · subst e2
        have : b = parent := by simpa [updM, lk, e'] using hb.symm
        subst this
        exact ⟨l, (gfoc_ne e).trans hl, by rw [gfoc_Fh e]; exact hp⟩
      · have e3 : Nat.beq h k = false := beq_ne fun q => e2 q.symm
        have hb' : m k = some b := by simpa [updM, lk, e', e3] using hb
        obtain ⟨l1, q1, q2⟩ := hm.blk k b hb'
        exact ⟨l1, (gfoc_ne e).trans q1, by rw [gfoc_F e e2]; exact q2.grow hg fun _ _ => rfl⟩
  · have key : ∀ {k}, Owns g k b → (k = h → ∀ l, g h = .live l → l.b ≠ some b → ¬ Fo b) → ¬ Fo b := fun {k} q1 q2 q3 => by
      have := hm.inj k h b q1 ⟨l, hl, .inr (hFo b q3)⟩
      exact q2 this l hl (fun e => hroot b e q3) q3
    rcases gfoc_owns hl' hFn e1 with ⟨a1, a2⟩ | ⟨a1, a2, a3⟩ <;> rcases gfoc_owns hl' hFn e2 with ⟨b1, b2⟩ | ⟨b1, b2, b3⟩
    · rw [a1, b1]
    · exact absurd a2 (key b2 b3)
    · exact absurd b2 (key a2 a3)
    · exact hm.inj k k' b a2 b2
  · rcases gfoc_owns hl' hFn e1 with ⟨_, q⟩ | ⟨_, q, _⟩
    · exact hm.lt h b ⟨l, hl, .inr (hFo b q)⟩
    · exact hm.lt k b q
  · rcases gfoc_owns hl' hFn e1 with ⟨_, q⟩ | ⟨_, q, _⟩
    · exact hm.xl h b ⟨l, hl, .inr (hFo b q)⟩
    · exact hm.xl k b q
end
theorem lnk_cons (ln : List ((Nat × Nat) × (Nat × Nat))) (i j i' j' : Nat) (x : Nat × Nat) : lnk (((i, j), x) :: ln) i' j' = if i = i' ∧ j = j' then some x else lnk ln i' j' := by
  show (bif Nat.beq j j' && Nat.beq i i' then some x else lnk ln i' j') = _
  by_cases h1 : i = i'
  · by_cases h2 : j = j'
    · subst h1; subst h2; simp
    · rw [beq_ne h2]; simp [h2]
  · rw [beq_ne h1, Bool.and_false]; simp [h1]
/-- a look at a cell that holds a slice of one's own -/
theorem focus_own {g : Gh} {w : World} {m' : Mem} {hd nh n B b cap i off n2 B2 e : Nat} {rows : List (List Tr)} {ln : List ((Nat × Nat) × (Nat × Nat))} {cur : Array Value} {Fs : Nat → Nat → Nat → Prop} {row : List Tr} {rows2 : List (List Tr)} {v : Value}
    (hm : MSt g w m') (hn : g nh = .un) (g1 : g hd = .live (.row b cap)) (g3 : w.heap[b]? = some (.cells cur e (0, 0))) (g4 : rows.length ≤ cap) (g5 : cap ≤ 9223372036854775807) (g6 : cur.size = cap * n) (g7 : ∀ row ∈ rows, row.length = n)
    (g8 : ∀ i j c, Fs i j c → g.F hd c ∧ c ≠ b) (g9 : ∀ i j i' j' c, Fs i j c → Fs i' j' c → i = i' ∧ j = j')
    (g10 : ∀ (i j : Nat) (row : List Tr) (t : Tr) (c : Value), rows[i]? = some row → row[j]? = some t → cur[i * n + j]? = some c → (lnk ln i j = none → RepO w (Fs i j) c t) ∧ ∀ h len, lnk ln i j = some (h, len) → Rep g w c (.sl h len))
    (hB : rows.length * B ≤ 150000000000000) (hn0 : 0 < n) (hrow : rows[i]? = some row) (hto : row[off]? = some (.lst n2 B2 rows2)) (hc : cur[i * n + off]? = some v) (hlk : lnk ln i off = none) (hn2 : 0 < n2) :
    ∃ g', Rep g' w v (.sl nh rows2.length) ∧ MSt g' w (updM m' [(nh, some (.own n2 B2 rows2 [])), (hd, some (.own n B rows (((i, off), (nh, rows2.length)) :: ln)))]) ∧ Grow g w g' w ∧ ∀ k, k ≠ nh → g k = .un → g' k = .un := by
  have hrep := (g10 i off row _ v hrow hto hc).1 hlk
  have hFo : ∀ c, Fs i off c → g.F hd c := fun c hc => (g8 i off c hc).1
  have hroot : ∀ c, (Loc.row b cap).b = some c → ¬ Fs i off c := fun c e hc => by cases e; exact (g8 i off _ hc).2 rfl
  have hnl : ∀ {l' : Loc} {Fn : Nat → Prop} {v : Value}, (∀ c, l'.b = some c → Fs i off c) → (∀ c, Fn c → Fs i off c) → cur[i * n + off]? = some v → Rep (gfoc g hd nh l' (Fs i off) Fn) w v (.sl nh rows2.length) →
      BRep (gfoc g hd nh l' (Fs i off) Fn) w (.row b cap) (fun c => g.F hd c ∧ ¬ Fs i off c) (.own n B rows (((i, off), (nh, rows2.length)) :: ln)) := fun {l' Fn v} hl' hFn hcv hsl => by
    have hG := grow_focus (w := w) (l' := l') (Fo := Fs i off) (Fn := Fn) hn g1 hFo hl' hFn
    refine ⟨hB, hn0, .inr ⟨b, cap, cur, e, fun i' j' c => Fs i' j' c ∧ ¬ (i' = i ∧ j' = off), rfl, g3, g4, g5, g6, g7, fun i' j' c hc => ⟨⟨(g8 i' j' c hc.1).1, fun q => hc.2 ((g9 i' j' i off c hc.1 q))⟩, (g8 i' j' c hc.1).2⟩, fun a1 a2 a3 a4 c q1 q2 => g9 a1 a2 a3 a4 c q1.1 q2.1, fun i' j' row' t' c' q1 q2 q3 => ?_⟩⟩
    rw [lnk_cons]
    by_cases hij : i = i' ∧ off = j'
    · rw [if_pos hij]
      refine ⟨fun q => (by cases q), fun h' len' q => ?_⟩
      cases q
      obtain ⟨rfl, rfl⟩ := hij
      rw [hcv] at q3; cases q3
      exact hsl
    · rw [if_neg hij]
      obtain ⟨u1, u2⟩ := g10 i' j' row' t' c' q1 q2 q3
      exact ⟨fun q => (u1 q).mono fun c hc => ⟨hc, fun q => hij ⟨q.1.symm, q.2.symm⟩⟩, fun h' len' q => (u2 h' len' q).grow hG⟩
  cases hrep with
  | nil =>
    have hl' : ∀ c, Loc.nil.b = some c → Fs i off c := fun c e => by cases e
    have hFn : ∀ c, (fun _ : Nat => False) c → Fs i off c := fun c e => e.elim
    have hsl : Rep (gfoc g hd nh .nil (Fs i off) fun _ => False) w (.slice none 0 0) (.sl nh 0) := .slN gfoc_new
    refine ⟨gfoc g hd nh .nil (Fs i off) fun _ => False, hsl, ?_, grow_focus hn g1 hFo hl' hFn, fun k q1 q2 => (gfoc_ne q1).trans q2⟩
    exact mst_focus hm hn g1 hFo hroot hl' hFn ⟨by simp, hn2, .inl ⟨rfl, rfl⟩⟩ (hnl hl' hFn hc hsl)
  | @lst _ b' cap' _ _ e' _ cur' Fs' h1 h2 h3 h4 h5 h6 h7 h8 h9 h10 h11 =>
    have hl' : ∀ c, (Loc.row b' cap').b = some c → Fs i off c := fun c e => by cases e; exact h8
    have hFn : ∀ c, (fun c => ∃ i j, Fs' i j c) c → Fs i off c := fun c ⟨i1, j1, q⟩ => (h9 i1 j1 c q).1
    have hsl : Rep (gfoc g hd nh (.row b' cap') (Fs i off) fun c => ∃ i j, Fs' i j c) w (.slice (some ⟨b', 0, none⟩) rows2.length cap') (.sl nh rows2.length) := .sl gfoc_new h4
    refine ⟨gfoc g hd nh (.row b' cap') (Fs i off) fun c => ∃ i j, Fs' i j c, hsl, ?_, grow_focus hn g1 hFo hl' hFn, fun k q1 q2 => (gfoc_ne q1).trans q2⟩
    refine mst_focus hm hn g1 hFo hroot hl' hFn ⟨h1, h2, .inr ⟨b', cap', cur', e', Fs', rfl, h3, h4, h5, h6, h7, fun i1 j1 c q => ⟨⟨i1, j1, q⟩, (h9 i1 j1 c q).2⟩, h10, fun i1 j1 row1 t1 c1 q1 q2 q3 => ⟨fun _ => h11 i1 j1 row1 t1 c1 q1 q2 q3, fun _ _ q => by cases q⟩⟩⟩ (hnl hl' hFn hc hsl)
theorem rowAV_len {ln : List ((Nat × Nat) × (Nat × Nat))} {i : Nat} : ∀ {l : List Tr} {j : Nat}, (rowAV ln i j l).length = l.length
  | [], _ => rfl
  | _ :: r, j => by
      show (rowAV ln i (j + 1) r).length + 1 = r.length + 1
      rw [rowAV_len]
theorem rowAV_get {ln : List ((Nat × Nat) × (Nat × Nat))} {i : Nat} : ∀ {l : List Tr} {j k : Nat} {t : Tr}, l[k]? = some t → (rowAV ln i j l)[k]? = some (match lnk ln i (j + k) with | some (h, len) => .sl h len | none => .tr t)
  | [], _, _, _, h => by simp at h
  | x :: r, j, 0, t, h => by
      simp at h
      subst h
      rfl
  | x :: r, j, k + 1, t, h => by
      have h : r[k]? = some t := by simpa using h
      have := rowAV_get (ln := ln) (i := i) (j := j + 1) h
      rw [show j + 1 + k = j + (k + 1) by omega] at this
      show (rowAV ln i (j + 1) r)[k]? = _
      exact this
section
variable {P : Program} {T : Ty} {o : Oper} {m : Mem} {nh : Nat} {ev : Operand → Option AV} {K : KK}
theorem l_loadO (hT : TOk P T) {ty : TypeId} {x : Operand} {a : AV} (ho : o.op = .load ty x) (hx : ev x = some a) (h : aloadO T m nh ty K a) : LOk P o m nh ev K := by
  have hrun : ∀ (ρ : Operand → Value) (w : World) (v u : Value), ρ x = u → (Instr.loadAt ty u).run P w = .ok v w → (execOp ρ o).run P w = .ok (.value v) w := fun ρ w v u hu e => by
    subst hu; simp [execOp, ho, e]
  unfold aloadO at h
  split at h
  case h_2 => exact l_load hT ho hx h
  rename_i hd n i off
  split at h
  case h_2 => exact l_load hT ho hx h
  rename_i n' B rows ln e2
  split at h
  case h_2 => exact h.elim
  rename_i ti e1
  have rdok : ∀ p ∈ [(hd, Blk.own n' B rows ln)], m p.1 = some p.2 := fun p hp => by simp at hp; subst hp; exact e2
  cases hag : ti.d.agg with
  | true =>
    rw [hag, cond_true] at h
    cases hsl : hasSl ti.zero with
    | true =>
      rw [hsl, cond_true] at h
      obtain ⟨rfl, hi, h⟩ := h
      obtain ⟨row, hrow⟩ : ∃ row, rows[i]? = some row := ⟨rows[i], by simp [hi]⟩
      obtain ⟨hs, h⟩ := h row hrow
      have base : ∀ (g : Gh) (w : World) (m' : Mem) (ρ : Operand → Value), MSt g w m' → (∀ p ∈ [(hd, Blk.own n B rows ln)], m' p.1 = some p.2) → (∀ x b, ev x = some b → Rep g w (ρ x) b) →
          ∃ (b cap : Nat) (cur : Array Value) (e : Nat) (Fs : Nat → Nat → Nat → Prop), g hd = .live (.row b cap) ∧ w.heap[b]? = some (.cells cur e (0, 0)) ∧ rows.length ≤ cap ∧ cap ≤ 9223372036854775807 ∧ cur.size = cap * n ∧ (∀ row ∈ rows, row.length = n) ∧ (∀ i j c, Fs i j c → g.F hd c ∧ c ≠ b) ∧ (∀ i j i' j' c, Fs i j c → Fs i' j' c → i = i' ∧ j = j') ∧
            (∀ (i j : Nat) (row : List Tr) (t : Tr) (c : Value), rows[i]? = some row → row[j]? = some t → cur[i * n + j]? = some c → (lnk ln i j = none → RepO w (Fs i j) c t) ∧ ∀ h len, lnk ln i j = some (h, len) → Rep g w c (.sl h len)) ∧
            rows.length * B ≤ 150000000000000 ∧ 0 < n ∧ i * n + n ≤ cur.size ∧ row.length = n ∧ (execOp ρ o).run P w = .ok (.value (.agg (cur.extract (i * n + off) (i * n + off + ti.size)))) w := by
        intro g w m' ρ hm hrd hev
        obtain ⟨lc, g1, hB, hn, ⟨_, hv⟩ | ⟨b, cap, cur, e, Fs, rfl, g3, g4, g5, g6, g7, g8, g9, g10⟩⟩ := hm.blk hd _ (hrd (hd, .own n B rows ln) (by simp))
        · rw [hv] at hi; simp at hi
        obtain ⟨b', cap', e3, e4⟩ := (hev _ _ hx).vpt_inv g1
        cases e3
        have hl := g7 row (List.mem_of_getElem? hrow)
        have hsz : i * n + n ≤ cur.size := by
          have : (i + 1) * n ≤ cap * n := Nat.mul_le_mul_right _ (by omega)
          rw [Nat.succ_mul] at this; omega
        refine ⟨b, cap, cur, e, Fs, g1, g3, g4, g5, g6, g7, g8, g9, g10, hB, hn, hsz, hl, hrun ρ w _ _ e4 ?_⟩
        have := run_loadA hT e1 hag (w := w) (b := b) (o := i * n + off) (cur.extract (i * n + off) (i * n + off + ti.size)).toList (by simp; omega) fun j v hj => by
          rw [heap_cell g3]
          simp only [Array.getElem?_toList, Array.getElem?_extract] at hj
          split at hj
          · exact hj
          · cases hj
        rw [Array.toArray_toList] at this
        exact this
      have cell : ∀ {cur : Array Value} {k : Nat} {c : Value} {t : Tr}, (cur.extract (i * n + off) (i * n + off + ti.size))[k]? = some c → ((row.drop off).take ti.size)[k]? = some t → cur[i * n + (off + k)]? = some c ∧ row[off + k]? = some t ∧ k < ti.size := fun {cur k c t} h1 h2 => by
        simp only [Array.getElem?_extract] at h1
        rw [List.getElem?_take] at h2
        split at h2
        · rename_i hk
          rw [List.getElem?_drop] at h2
          split at h1
          · exact ⟨by rw [← Nat.add_assoc]; exact h1, h2, hk⟩
          · cases h1
        · cases h2
      rcases h with ⟨hlf, h⟩ | ⟨j, n2, B2, rows2, j0, j1, hj, hn2, hln, hlf, h⟩
      · refine LOk.pure _ _ h rdok fun g w m' ρ hm hrd hev => ?_
        obtain ⟨b, cap, cur, e, Fs, g1, g3, g4, g5, g6, g7, g8, g9, g10, hB, hn0, hsz, hl, hr⟩ := base g w m' ρ hm hrd hev
        refine ⟨_, hr, .agg (by rw [rowAV_len]; simp; omega) (fun a ha => ?_) fun k c a h1 h2 => ?_⟩
        · obtain ⟨k, hk⟩ := List.mem_iff_getElem?.1 ha
          have hlt : k < ((row.drop off).take ti.size).length := by have := (List.getElem?_eq_some_iff.1 hk).1; rwa [rowAV_len] at this
          rw [rowAV_get (List.getElem?_eq_getElem hlt)] at hk
          obtain rfl := Option.some.inj hk
          split <;> rfl
        · have hlt : k < ((row.drop off).take ti.size).length := by have := (List.getElem?_eq_some_iff.1 h2).1; rwa [rowAV_len] at this
          have ht := List.getElem?_eq_getElem hlt
          rw [rowAV_get ht] at h2
          obtain rfl := Option.some.inj h2
          obtain ⟨q1, q2, q3⟩ := cell h1 ht
          generalize (List.take ti.size (List.drop off row))[k] = t at ht q2
          obtain ⟨u1, u2⟩ := g10 i (off + k) row t c hrow q2 q1
          cases hlk : lnk ln i (off + k) with
          | some p => exact u2 p.1 p.2 hlk
          | none =>
            obtain ⟨y, rfl⟩ := hlf (off + k) t (by omega) (by omega) q2 hlk
            cases u1 hlk with
            | v hy => exact .tr (.v hy)
      · refine ⟨_, _, _, h, rdok, fun p hp => ?_, fun g w m' ρ hm hn hrd hev => ?_⟩
        · simp at hp
          rcases hp with rfl | rfl
          · exact .inl rfl
          · exact .inr ⟨(hd, .own n B rows ln), by simp, rfl⟩
        obtain ⟨b, cap, cur, e, Fs, g1, g3, g4, g5, g6, g7, g8, g9, g10, hB, hn0, hsz, hl, hr⟩ := base g w m' ρ hm hrd hev
        have hjr : j < n := by rw [← hl]; exact (List.getElem?_eq_some_iff.1 hj).1
        have hcj : cur[i * n + j]? = some (cur[i * n + j]'(by omega)) := by simp [show i * n + j < cur.size by omega]
        obtain ⟨g', f1, f2, f3, f4⟩ := focus_own hm hn g1 g3 g4 g5 g6 g7 g8 g9 g10 hB hn0 hrow hj hcj (hln j j0 j1) hn2
        refine ⟨g', w, .inl ⟨_, hr, .agg (by simp; omega) (fun a ha => ?_) fun k c a h1 h2 => ?_⟩, f2, f3, f4⟩
        · rcases List.mem_or_eq_of_mem_set ha with ha | rfl
          · obtain ⟨t, _, rfl⟩ := List.mem_map.1 ha; rfl
          · rfl
        · by_cases hk : j - off = k
          · subst hk
            rw [List.getElem?_set_self (by simp; omega)] at h2
            obtain rfl := Option.some.inj h2
            simp only [Array.getElem?_extract] at h1
            split at h1
            · rw [show i * n + off + (j - off) = i * n + j by omega, hcj] at h1
              obtain rfl := Option.some.inj h1
              exact f1
            · cases h1
          · rw [List.getElem?_set_ne hk, List.getElem?_map, Option.map_eq_some_iff] at h2
            obtain ⟨t, ht, rfl⟩ := h2
            obtain ⟨q1, q2, q3⟩ := cell h1 ht
            obtain ⟨y, rfl⟩ := hlf (off + k) t (by omega) (by omega) (by omega) q2
            cases (g10 i (off + k) row _ c hrow q2 q1).1 (hln _ (by omega) (by omega)) with
            | v hy => exact .tr (.v hy)
    | false =>
    rw [hsl, cond_false] at h
    obtain ⟨rfl, hi, h⟩ := h
    obtain ⟨row, hrow⟩ : ∃ row, rows[i]? = some row := ⟨rows[i], by simp [hi]⟩
    obtain ⟨hs, hlf, hln, h⟩ := h row hrow
    refine LOk.pure _ _ h rdok fun g w m' ρ hm hrd hev => ?_
    obtain ⟨lc, g1, hB, hn, ⟨_, hv⟩ | ⟨b, cap, cur, e, Fs, rfl, g3, g4, g5, g6, g7, g8, g9, g10⟩⟩ := hm.blk hd _ (hrd (hd, .own n B rows ln) (by simp))
    · rw [hv] at hi; simp at hi
    obtain ⟨b', cap', e3, e4⟩ := (hev _ _ hx).vpt_inv g1
    cases e3
    have hl := g7 row (List.mem_of_getElem? hrow)
    have hsz : i * n + n ≤ cur.size := by
      have : (i + 1) * n ≤ cap * n := Nat.mul_le_mul_right _ (by omega)
      rw [Nat.succ_mul] at this; omega
    have hcs : Cells g w (cur.extract (i * n + off) (i * n + off + ti.size)).toList.toArray (((row.drop off).take ti.size).map .tr) := by
      refine trs_rep (by simp; omega) fun k c t h1 h2 => ?_
      have hmem := List.mem_of_getElem? h2
      simp only [Array.getElem?_toList, Array.getElem?_extract] at h1
      rw [List.getElem?_take] at h2
      split at h2
      · rename_i hk
        rw [List.getElem?_drop] at h2
        split at h1
        · have hc := (g10 i (off + k) row t c hrow h2 (by rw [← Nat.add_assoc]; exact h1)).1 (hln (off + k) (by omega) (by omega))
          obtain ⟨y, rfl⟩ := hlf t hmem
          cases hc with
          | v hy => exact .v hy
        · cases h1
      · cases h2
    refine ⟨_, hrun ρ w _ _ e4 (run_loadA hT e1 hag (cur.extract (i * n + off) (i * n + off + ti.size)).toList (by simp; omega) fun j v hj => ?_), hcs.agg⟩
    rw [heap_cell g3]
    simp only [Array.getElem?_toList, Array.getElem?_extract] at hj
    split at hj
    · exact hj
    · cases hj
  | false =>
    rw [hag, cond_false] at h
    obtain ⟨rfl, hi, h⟩ := h
    obtain ⟨row, hrow⟩ : ∃ row, rows[i]? = some row := ⟨rows[i], by simp [hi]⟩
    obtain ⟨hlo, h⟩ := h row hrow
    have hto : row[off]? = some row[off] := by simp [hlo]
    have h := h _ hto
    generalize row[off] = t at h hto
    have base : ∀ (g : Gh) (w : World) (m' : Mem) (ρ : Operand → Value), MSt g w m' → (∀ p ∈ [(hd, Blk.own n B rows ln)], m' p.1 = some p.2) → (∀ x b, ev x = some b → Rep g w (ρ x) b) →
        ∃ (b cap : Nat) (cur : Array Value) (e : Nat) (Fs : Nat → Nat → Nat → Prop) (c : Value), g hd = .live (.row b cap) ∧ w.heap[b]? = some (.cells cur e (0, 0)) ∧ rows.length ≤ cap ∧ cap ≤ 9223372036854775807 ∧ cur.size = cap * n ∧ (∀ row ∈ rows, row.length = n) ∧ (∀ i j c, Fs i j c → g.F hd c ∧ c ≠ b) ∧ (∀ i j i' j' c, Fs i j c → Fs i' j' c → i = i' ∧ j = j') ∧
          (∀ (i j : Nat) (row : List Tr) (t : Tr) (c : Value), rows[i]? = some row → row[j]? = some t → cur[i * n + j]? = some c → (lnk ln i j = none → RepO w (Fs i j) c t) ∧ ∀ h len, lnk ln i j = some (h, len) → Rep g w c (.sl h len)) ∧
          cur[i * n + off]? = some c ∧ (execOp ρ o).run P w = .ok (.value c) w ∧ rows.length * B ≤ 150000000000000 ∧ 0 < n := by
      intro g w m' ρ hm hrd hev
      obtain ⟨lc, g1, hB, hn, ⟨_, hv⟩ | ⟨b, cap, cur, e, Fs, rfl, g3, g4, g5, g6, g7, g8, g9, g10⟩⟩ := hm.blk hd _ (hrd (hd, .own n B rows ln) (by simp))
      · rw [hv] at hi; simp at hi
      obtain ⟨b', cap', e3, e4⟩ := (hev _ _ hx).vpt_inv g1
      cases e3
      have hl := g7 row (List.mem_of_getElem? hrow)
      have hsz : i * n + n ≤ cur.size := by
        have : (i + 1) * n ≤ cap * n := Nat.mul_le_mul_right _ (by omega)
        rw [Nat.succ_mul] at this; omega
      have hc : cur[i * n + off]? = some cur[i * n + off] := by simp [show i * n + off < cur.size by omega]
      exact ⟨b, cap, cur, e, Fs, _, g1, g3, g4, g5, g6, g7, g8, g9, g10, hc, hrun ρ w _ _ e4 (run_load1 hT e1 hag (by rw [heap_cell g3]; exact hc)), hB, hn⟩
    split at h
    · rename_i c len hlk
      refine LOk.pure _ _ h rdok fun g w m' ρ hm hrd hev => ?_
      obtain ⟨b, cap, cur, e, Fs, v, g1, g3, g4, g5, g6, g7, g8, g9, g10, hc, hr, _⟩ := base g w m' ρ hm hrd hev
      exact ⟨v, hr, (g10 i off row t v hrow hto hc).2 c len hlk⟩
    · rename_i hlk
      split at h
      · rename_i y
        refine LOk.pure _ _ h rdok fun g w m' ρ hm hrd hev => ?_
        obtain ⟨b, cap, cur, e, Fs, v, g1, g3, g4, g5, g6, g7, g8, g9, g10, hc, hr, _⟩ := base g w m' ρ hm hrd hev
        refine ⟨v, hr, ?_⟩
        cases (g10 i off row _ v hrow hto hc).1 hlk with
        | v hy => exact .tr (.v hy)
      · rename_i n2 B2 rows2
        obtain ⟨hn2, h⟩ := h
        refine ⟨_, _, _, h, rdok, fun p hp => ?_, fun g w m' ρ hm hn hrd hev => ?_⟩
        · simp at hp
          rcases hp with rfl | rfl
          · exact .inl rfl
          · exact .inr ⟨(hd, .own n B rows ln), by simp, rfl⟩
        obtain ⟨b, cap, cur, e, Fs, v, g1, g3, g4, g5, g6, g7, g8, g9, g10, hc, hr, hB, hn0⟩ := base g w m' ρ hm hrd hev
        obtain ⟨g', f1, f2, f3, f4⟩ := focus_own hm hn g1 g3 g4 g5 g6 g7 g8 g9 g10 hB hn0 hrow hto hc hlk hn2
        exact ⟨g', w, .inl ⟨_, hr, f1⟩, f2, f3, f4⟩
/-! stores -/
theorem lnk_append (a b : List ((Nat × Nat) × (Nat × Nat))) (i j : Nat) : lnk (a ++ b) i j = match lnk a i j with | some x => some x | none => lnk b i j := by
  induction a with
  | nil => rfl
  | cons p a ih =>
    obtain ⟨⟨i', j'⟩, x⟩ := p
    rw [List.cons_append, lnk_cons, lnk_cons, ih]
    split <;> rfl
theorem lnk_cut {i off k : Nat} : ∀ {ln : List ((Nat × Nat) × (Nat × Nat))}, lnOk i off k ln → ∀ i' j', lnk (lnCut off k ln) i' j' = if i' = i ∧ off ≤ j' ∧ j' < off + k then none else lnk ln i' j' := by
  intro ln
  induction ln with
  | nil => intro _ i' j'; show (none : Option (Nat × Nat)) = _; split <;> rfl
  | cons p r ih =>
    obtain ⟨⟨a, b⟩, x⟩ := p
    intro h i' j'
    obtain ⟨h1, h2⟩ := h
    have h1 : (Nat.ble off b && Nat.blt b (off + k)) = true → a = i := h1
    show lnk (bif Nat.ble off b && Nat.blt b (off + k) then lnCut off k r else ((a, b), x) :: lnCut off k r) i' j' = _
    cases hc : (Nat.ble off b && Nat.blt b (off + k)) with
    | true =>
      have ha := h1 hc
      rw [cond_true, ih h2, lnk_cons]
      simp only [Bool.and_eq_true] at hc
      have q1 := Nat.le_of_ble_eq_true hc.1
      have q2 : b < off + k := Nat.le_of_ble_eq_true hc.2
      by_cases q : i' = i ∧ off ≤ j' ∧ j' < off + k
      · rw [if_pos q, if_pos q]
      · rw [if_neg q, if_neg q]
        by_cases q3 : a = i' ∧ b = j'
        · exact absurd ⟨by omega, by omega, by omega⟩ q
        · rw [if_neg q3]
    | false =>
      rw [cond_false, lnk_cons, lnk_cons, ih h2]
      by_cases q3 : a = i' ∧ b = j'
      · rw [if_pos q3, if_pos q3]
        have : ¬ (i' = i ∧ off ≤ j' ∧ j' < off + k) := fun q => by
          obtain ⟨rfl, rfl⟩ := q3
          have e1 : Nat.ble off b = true := Nat.ble_eq_true_of_le q.2.1
          have e2 : Nat.blt b (off + k) = true := Nat.ble_eq_true_of_le q.2.2
          rw [e1, e2] at hc; cases hc
        rw [if_neg this]
      · rw [if_neg q3, if_neg q3]
theorem ocells_ok {i : Nat} : ∀ {as : List AV} {off : Nat} {ts : List Tr} {ls : List ((Nat × Nat) × (Nat × Nat))}, ocells i off as = some (ts, ls) → ts.length = as.length ∧ (∀ i' j', lnk ls i' j' ≠ none → i' = i ∧ off ≤ j' ∧ j' < off + as.length) ∧
    ∀ (k : Nat) (a : AV), as[k]? = some a → (∃ x, a = .tr (.v x) ∧ ts[k]? = some (.v x) ∧ lnk ls i (off + k) = none) ∨ ∃ h len, a = .sl h len ∧ lnk ls i (off + k) = some (h, len) := by
  intro as
  induction as with
  | nil =>
    intro off ts ls h
    cases h
    exact ⟨rfl, fun i' j' q => absurd rfl q, fun k a q => by simp at q⟩
  | cons a r ih =>
    intro off ts ls h
    unfold ocells at h
    split at h
    case h_2 => cases h
    rename_i t l ts' ls' e1 e2
    cases h
    obtain ⟨h1, h2, h3⟩ := ih e2
    have hz : lnk ls' i off = none := by
      cases q : lnk ls' i off with
      | none => rfl
      | some x => have := h2 i off (by rw [q]; simp); omega
    have hcons : ∀ {x}, (match l with | some x => ((i, off), x) :: ls' | none => ls') = x → True := fun _ => trivial
    cases l with
    | none =>
      refine ⟨by simp [h1], fun i' j' q => ?_, fun k b q => ?_⟩
      · have := h2 i' j' q; simp only [List.length_cons]; omega
      · cases k with
        | zero =>
          simp at q; subst q
          unfold ocell at e1
          split at e1 <;> cases e1
          exact .inl ⟨_, rfl, rfl, hz⟩
        | succ k =>
          have := h3 k b (by simpa using q)
          rw [show off + 1 + k = off + (k + 1) by omega] at this
          simpa using this
    | some x =>
      refine ⟨by simp [h1], fun i' j' q => ?_, fun k b q => ?_⟩
      · rw [lnk_cons] at q
        simp only [List.length_cons]
        by_cases q1 : i = i' ∧ off = j'
        · omega
        · rw [if_neg q1] at q
          have := h2 i' j' q; omega
      · cases k with
        | zero =>
          simp at q; subst q
          unfold ocell at e1
          split at e1 <;> cases e1
          exact .inr ⟨_, _, rfl, by rw [lnk_cons, if_pos ⟨rfl, rfl⟩]⟩
        | succ k =>
          have := h3 k b (by simpa using q)
          rw [show off + 1 + k = off + (k + 1) by omega] at this
          rw [lnk_cons, if_neg (by omega)]
          simpa using this
theorem l_storeO (hT : TOk P T) {ty : TypeId} {x y : Operand} {a b : AV} (ho : o.op = .store ty x y) (hx : ev x = some a) (hy : ev y = some b) (h : astoreO T m ty b K a) : LOk P o m nh ev K := by
  have hrun : ∀ (ρ : Operand → Value) (w w' : World) (u : Value), ρ x = u → (Instr.storeAt ty u (ρ y)).run P w = .ok () w' → (execOp ρ o).run P w = .ok .skip w' := fun ρ w w' u hu e => by
    subst hu; simp [execOp, ho, e]
  unfold astoreO at h
  split at h
  case h_2 => exact l_store hT ho hx hy h
  rename_i hd n i off
  split at h
  case h_2 => exact l_store hT ho hx hy h
  rename_i n' B rows ln e2
  split at h
  case h_2 => exact h.elim
  rename_i ti as e1 e3
  split at h
  case h_2 => exact h.elim
  rename_i ts ls e4
  obtain ⟨rfl, c0, c1, c2, hok, h⟩ := h
  obtain ⟨row, hrow⟩ : ∃ row, rows[i]? = some row := ⟨rows[i], by simp [c2]⟩
  obtain ⟨c3, h⟩ := h row hrow
  obtain ⟨o1, o2, o3⟩ := ocells_ok e4
  refine ⟨_, _, _, h, fun p hp => by simp at hp; subst hp; exact e2, fun p hp => .inr ⟨(hd, .own n B rows ln), by simp, by simp at hp; rw [hp]⟩, fun g w m' ρ hm hn hrd hev => ?_⟩
  obtain ⟨lc, g1, hB, hn0, ⟨_, hv⟩ | ⟨k, cap, cur, e, Fs, rfl, g3, g4, g5, g6, g7, g8, g9, g10⟩⟩ := hm.blk hd _ (hrd (hd, .own n B rows ln) (by simp))
  · rw [hv] at c2; simp at c2
  obtain ⟨b', cap', q1, q2⟩ := (hev _ _ hx).vpt_inv g1
  cases q1
  have hcs := (hev _ _ hy).cells e3 c0
  have hcz := hcs.1
  have hrl := g7 row (List.mem_of_getElem? hrow)
  have hsz : i * n + n ≤ cur.size := by
    have : (i + 1) * n ≤ cap * n := Nat.mul_le_mul_right _ (by omega)
    rw [Nat.succ_mul] at this; omega
  have hr := run_storeA (P := P) hT e1 g3 (x := ρ y) (o := i * n + off) (by omega) (fun v hv => by
      obtain ⟨j, hj⟩ := List.mem_iff_getElem?.1 hv
      have hj' : j < as.length := by have := (List.getElem?_eq_some_iff.1 hj).1; simp at this; omega
      exact (hcs.2.2 j v as[j] (by simpa using hj) (by simp [hj'])).one (hcs.2.1 _ (by simp))) (by omega)
  have hk2 := setRow_heap w k cur (cur.toList.take (i * n + off) ++ (ρ y).cells.toList ++ cur.toList.drop (i * n + off + (ρ y).cells.size)).toArray e _ g3
  have hko := fun j hj => setRow_other w k j (cur.toList.take (i * n + off) ++ (ρ y).cells.toList ++ cur.toList.drop (i * n + off + (ρ y).cells.size)).toArray hj
  have hg := grow_write (b := k) (hm.xl hd k (.root g1 rfl)) (.root g1 rfl) (w := w) (w' := w.setRow k (cur.toList.take (i * n + off) ++ (ρ y).cells.toList ++ cur.toList.drop (i * n + off + (ρ y).cells.size)).toArray) rfl rfl rfl (by simp) hko
  have hsz2 : (w.setRow k (cur.toList.take (i * n + off) ++ (ρ y).cells.toList ++ cur.toList.drop (i * n + off + (ρ y).cells.size)).toArray).heap.size = w.heap.size := by simp
  generalize w.setRow k (cur.toList.take (i * n + off) ++ (ρ y).cells.toList ++ cur.toList.drop (i * n + off + (ρ y).cells.size)).toArray = w2 at *
  refine ⟨g, _, .inr ⟨hrun ρ w _ _ q2 hr, rfl⟩, ?_, hg, fun _ _ h => h⟩
  refine mst_write hm g1 (.inl rfl) hg hsz2 hko ⟨by simpa using hB, hn0, .inr ⟨k, cap, _, e, Fs, rfl, hk2, by simpa using g4, g5, by simp; omega, fun r hr => ?_, g8, g9, fun i' j' row' t' c' r1 r2 r3 => ?_⟩⟩
  · rcases List.mem_or_eq_of_mem_set hr with hr | rfl
    · exact g7 r hr
    · simp; omega
  -- a cell
  have hold : ∀ {i' j' row0 t0}, rows[i']? = some row0 → row0[j']? = some t0 → cur[i' * n + j']? = some c' → (lnk ln i' j' = none → RepO w2 (Fs i' j') c' t0) ∧ ∀ h len, lnk ln i' j' = some (h, len) → Rep g w2 c' (.sl h len) := fun {i' j' row0 t0} a1 a2 a3 => by
    obtain ⟨u1, u2⟩ := g10 i' j' row0 t0 c' a1 a2 a3
    exact ⟨fun q => (u1 q).world fun b hb => hko b (g8 i' j' b hb).2, fun h len q => (u2 h len q).grow hg⟩
  have hlk : ∀ i' j', ¬ (i' = i ∧ off ≤ j' ∧ j' < off + as.length) → lnk (ls ++ lnCut off as.length ln) i' j' = lnk ln i' j' := fun i' j' q => by
    have : lnk ls i' j' = none := by
      cases e : lnk ls i' j' with
      | none => rfl
      | some x => exact absurd (o2 i' j' (by rw [e]; simp)) q
    rw [lnk_append, this, lnk_cut hok, if_neg q]
  simp only [List.getElem?_toArray, List.append_assoc] at r3
  by_cases hi' : i' = i
  · subst hi'
    have hr' : row' = row.take off ++ ts ++ row.drop (off + ts.length) := by
      rw [List.getElem?_set_self c2] at r1; exact (Option.some.inj r1).symm
    subst hr'
    rw [List.append_assoc] at r2
    have hjn : j' < n := by
      have := (List.getElem?_eq_some_iff.1 r2).1
      simp at this; omega
    by_cases k1 : j' < off
    · rw [List.getElem?_append_left (by rw [List.length_take]; omega), List.getElem?_take, if_pos k1] at r2
      rw [List.getElem?_append_left (by rw [List.length_take, Array.length_toList]; omega), List.getElem?_take, if_pos (by omega)] at r3
      rw [hlk i' j' (by omega)]
      exact hold hrow r2 (by simpa using r3)
    · rw [List.getElem?_append_right (by rw [List.length_take]; omega), List.length_take, Nat.min_eq_left (by omega)] at r2
      rw [List.getElem?_append_right (by rw [List.length_take, Array.length_toList]; omega), List.length_take, Array.length_toList, Nat.min_eq_left (by omega), show i' * n + j' - (i' * n + off) = j' - off by omega] at r3
      by_cases k2 : j' - off < as.length
      · rw [List.getElem?_append_left (by omega)] at r2
        rw [List.getElem?_append_left (by rw [Array.length_toList]; omega)] at r3
        have ha : as[j' - off]? = some as[j' - off] := by simp [k2]
        have hrep := hcs.2.2 (j' - off) c' _ (by simpa using r3) ha
        rcases o3 (j' - off) _ ha with ⟨x1, a1, a2, a3⟩ | ⟨h1, len1, a1, a2⟩
        · rw [show off + (j' - off) = j' by omega] at a3
          rw [a2] at r2; cases r2
          rw [a1] at hrep
          have hl : lnk (ls ++ lnCut off as.length ln) i' j' = none := by rw [lnk_append, a3, lnk_cut hok, if_pos ⟨rfl, by omega, by omega⟩]
          rw [hl]
          refine ⟨fun _ => ?_, fun _ _ q => (by cases q)⟩
          cases hrep.tr_inv with
          | v hx => exact .v hx
        · rw [show off + (j' - off) = j' by omega] at a2
          rw [a1] at hrep
          rw [lnk_append, a2]
          exact ⟨fun q => (by cases q), fun _ _ q => (by cases q; exact hrep.grow hg)⟩
      · rw [List.getElem?_append_right (by omega), List.getElem?_drop] at r2
        rw [List.getElem?_append_right (by rw [Array.length_toList]; omega), List.getElem?_drop, Array.length_toList] at r3
        rw [hlk i' j' (by omega)]
        rw [show off + ts.length + (j' - off - ts.length) = j' by omega] at r2
        exact hold hrow r2 (by rw [← Array.getElem?_toList, ← r3]; congr 1; omega)
  · rw [List.getElem?_set_ne (fun q => hi' q.symm)] at r1
    have hl' := g7 row' (List.mem_of_getElem? r1)
    have hjn : j' < n := by rw [← hl']; exact (List.getElem?_eq_some_iff.1 r2).1
    rw [hlk i' j' (by omega)]
    refine hold r1 r2 ?_
    rcases Nat.lt_or_gt_of_ne hi' with q | q
    · have : (i' + 1) * n ≤ i * n := Nat.mul_le_mul_right _ q
      rw [Nat.succ_mul] at this
      rw [List.getElem?_append_left (by rw [List.length_take, Array.length_toList]; omega), List.getElem?_take, if_pos (by omega)] at r3
      simpa using r3
    · have : (i + 1) * n ≤ i' * n := Nat.mul_le_mul_right _ q
      rw [Nat.succ_mul] at this
      rw [List.getElem?_append_right (by rw [List.length_take, Array.length_toList]; omega), List.length_take, Array.length_toList, Nat.min_eq_left (by omega), List.getElem?_append_right (by rw [Array.length_toList]; omega), List.getElem?_drop, Array.length_toList] at r3
      rw [← Array.getElem?_toList, ← r3]; congr 1; omega
/-- new memory for a struct, as a row of one's own -/
theorem l_allocO (hT : TOk P T) {t : Nat} {i : TyI} (ho : o.op = .alloc t) (ht : lk T t = some i) (h1 : 1 ≤ i.size) (hK : K (.vpt nh i.size 0 0) [] [(nh, some (.own i.size i.bytes [ztrs i.zero] []))]) : LOk P o m nh ev K := by
  refine ⟨_, _, _, hK, by simp, by simp, fun g w m' ρ hm hn hrd hev => ?_⟩
  obtain ⟨z, z1, z2, z3, z4⟩ := run_zero hT ht w
  have hby := (hT t i ht).2
  have hp : Rep (gset g nh (.live (.row w.heap.size 1))) (w.alloc (.cells z.cells t)) (.pointer (some ⟨w.heap.size, 0 * i.size + 0, none⟩)) (.vpt nh i.size 0 0) := .vpt (gset_same ..)
  rw [show 0 * i.size + 0 = 0 by omega] at hp
  refine LRes.new hm hn (.cells z.cells t) (.row w.heap.size 1) (fun b e => by cases e; rfl) _ (.pointer (some ⟨w.heap.size, 0, none⟩)) ?_ (fun F => ⟨by simp; omega, h1, .inr ⟨_, 1, _, t, fun _ _ _ => False, rfl, heap_alloc_new w _, Nat.le_refl _, by decide, by rw [z2]; simp [z3], fun row hr => ?_, fun _ _ _ h => h.elim, fun _ _ _ _ _ h => h.elim, fun a b row t' c q1 q2 q3 => ⟨fun _ => ?_, fun _ _ q => by cases q⟩⟩⟩) hp
  · simp [execOp, ho, Instr.alloc, z1, newVar, newRow]
  · obtain rfl := List.mem_singleton.1 hr
    simp [ztrs, z3]
  · have ha : a = 0 := by have := (List.getElem?_eq_some_iff.1 q1).1; simp at this; exact this
    subst ha
    obtain rfl : ztrs i.zero = row := by simpa using q1
    simp only [ztrs, List.getElem?_map, Option.map_eq_some_iff] at q2
    obtain ⟨y, y1, rfl⟩ := q2
    rw [z2] at q3
    simp only [Nat.zero_mul, Nat.zero_add, List.getElem?_toArray, List.getElem?_map, Option.map_eq_some_iff] at q3
    obtain ⟨y', y2, rfl⟩ := q3
    rw [y1] at y2; cases y2
    exact .v (good_zero y)
theorem l_boxO (hT : TOk P T) {t : Nat} {i : TyI} {x : Operand} {a : AV} {cs : List AV} {ts : List Tr} {ls : List ((Nat × Nat) × (Nat × Nat))} (ho : o.op = .box t x) (hx : ev x = some a) (hc : a.cells = some cs) (h1 : cs.all AV.one = true) (ht : lk T t = some i) (hsz : 1 ≤ i.size) (hl : cs.length = i.size)
    (hoc : ocells 0 0 cs = some (ts, ls)) (hK : K (.vpt nh i.size 0 0) [] [(nh, some (.own i.size i.bytes [ts] ls))]) : LOk P o m nh ev K := by
  refine ⟨_, _, _, hK, by simp, by simp, fun g w m' ρ hm hn hrd hev => ?_⟩
  obtain ⟨o1, o2, o3⟩ := ocells_ok hoc
  have hby := (hT t i ht).2
  have hg := grow_alloc (w := w) hm.xlt hn (.cells (ρ x).cells t) (l := .row w.heap.size 1) (fun b e => by cases e; rfl)
  have hcs := Rep.cells ((hev _ _ hx).grow hg) hc h1
  have hp : Rep (gset g nh (.live (.row w.heap.size 1))) (w.alloc (.cells (ρ x).cells t)) (.pointer (some ⟨w.heap.size, 0 * i.size + 0, none⟩)) (.vpt nh i.size 0 0) := .vpt (gset_same ..)
  rw [show 0 * i.size + 0 = 0 by omega] at hp
  refine LRes.new hm hn (.cells (ρ x).cells t) (.row w.heap.size 1) (fun b e => by cases e; rfl) _ (.pointer (some ⟨w.heap.size, 0, none⟩)) ?_ (fun F => ⟨by simp; omega, hsz, .inr ⟨_, 1, _, t, fun _ _ _ => False, rfl, heap_alloc_new w _, Nat.le_refl _, by decide, by rw [hcs.1, hl, Nat.one_mul], fun row hr => ?_, fun _ _ _ h => h.elim, fun _ _ _ _ _ h => h.elim, fun a b row t' c q1 q2 q3 => ?_⟩⟩) hp
  · simp [execOp, ho, Instr.box, newVar, newRow]
  · obtain rfl := List.mem_singleton.1 hr
    omega
  · have ha : a = 0 := by have := (List.getElem?_eq_some_iff.1 q1).1; simp at this; exact this
    subst ha
    obtain rfl : ts = row := by simpa using q1
    have hb : b < cs.length := by rw [← o1]; exact (List.getElem?_eq_some_iff.1 q2).1
    have hcb : cs[b]? = some cs[b] := by simp [hb]
    rw [Nat.zero_mul, Nat.zero_add] at q3
    have hrep := hcs.2.2 b c _ q3 hcb
    rcases o3 b _ hcb with ⟨y, a1, a2, a3⟩ | ⟨h', len, a1, a2⟩
    · rw [Nat.zero_add] at a3
      rw [a2] at q2; cases q2
      rw [a1] at hrep
      refine ⟨fun _ => ?_, fun _ _ q => (by rw [a3] at q; cases q)⟩
      cases hrep.tr_inv with
      | v hx => exact .v hx
    · rw [Nat.zero_add] at a2
      rw [a1] at hrep
      exact ⟨fun q => (by rw [a2] at q; cases q), fun _ _ q => (by rw [a2] at q; cases q; exact hrep)⟩
theorem l_indexAddrO (hT : TOk P T) {ty : Nat} {x i : Operand} {a : AV} {k : IntKind} {z : Int} (ho : o.op = .indexAddr ty x i) (hx : ev x = some a) (hi : ev i = some (.tr (.v (.int k z)))) (h : aindexAddrO T m ty z K a) : LOk P o m nh ev K := by
  unfold aindexAddrO at h
  split at h
  case h_4 => exact l_indexAddr hT ho hx hi h
  case h_3 =>
    rename_i hd n q off
    split at h
    case h_2 => exact h.elim
    rename_i k' e s1 s2 s3 s4 bk e1 em
    split at h
    case h_2 => exact h.elim
    rename_i te e2
    obtain ⟨h0, h1, h⟩ := h
    refine LOk.pure _ _ h (by simpa using em) fun g w m' ρ hm hrd hev => ?_
    obtain ⟨u, u1, u2, _⟩ := run_und hT e1 w
    obtain rfl := D_array u2
    obtain ⟨hz, _⟩ := int_inv (hev _ _ hi)
    obtain ⟨l, g1, g2⟩ := hm.blk hd _ (hrd (hd, bk) (by simp))
    have hr := hev _ _ hx
    generalize hv : ρ x = v at hr
    cases hr with
    | vptD e => rw [g1] at e; cases e
    | vpt e =>
      refine ⟨_, ?_, .vpt e⟩
      simp [execOp, ho, hv, hz, Instr.indexAt, asIntOf, u1, h0, h1, run_size hT e2, add_mk, Instr.sureAddr, Nat.add_assoc]
  case h_2 =>
    rename_i q hd off
    split at h
    case h_2 => exact h.elim
    rename_i e s1 s2 s3 s4 bk e1 em
    split at h
    case h_2 => exact h.elim
    rename_i te e2
    cases hc : (Nat.ble (2 * HMod) q && Nat.beq te.size 1) with
    | false => rw [hc] at h; exact h.elim
    | true =>
      rw [hc, cond_true] at h
      rw [Bool.and_eq_true] at hc
      have hq := Nat.le_of_ble_eq_true hc.1
      have hq2 := Nat.eq_of_beq_eq_true hc.2
      obtain ⟨h0, h1, h⟩ := h
      refine LOk.pure _ _ h (by simpa using em) fun g w m' ρ hm hrd hev => ?_
      obtain ⟨u, u1, u2, _⟩ := run_und hT e1 w
      obtain rfl := D_slice u2
      obtain ⟨hz, _⟩ := int_inv (hev _ _ hi)
      obtain ⟨l, g1, g2⟩ := hm.blk hd _ (hrd (hd, bk) (by simp))
      have hr := hev _ _ hx
      generalize hv : ρ x = v at hr
      cases hr with
      | ifc h1 _ => omega
      | bnd h1 _ => omega
      | psl hp =>
        rename_i len b
        generalize hpv : Value.pointer (some ⟨b, 0, none⟩) = pv at hp
        cases hp with
        | ptrD e => rw [g1] at e; cases e
        | ptr e =>
          cases hpv
          refine ⟨.pointer (some ⟨b, 0 + z.toNat * te.size, none⟩), ?_, ?_⟩
          · have h2 : z < len := by omega
            simp [execOp, ho, hv, hz, Instr.indexAt, asIntOf, u1, h0, h2, run_size hT e2, add_mk]
          · rw [hq2, Nat.mul_one]; exact .ptr e
  rename_i hd len
  split at h
  case h_2 => exact l_indexAddr hT ho hx hi h
  rename_i n B rows ln em
  split at h
  case h_2 => exact h.elim
  rename_i e s1 s2 s3 s4 e1
  split at h
  case h_2 => exact h.elim
  rename_i te e2
  obtain ⟨hn, h0, h1, h⟩ := h
  refine LOk.pure _ _ h (by simpa using em) fun g w m' ρ hm hrd hev => ?_
  obtain ⟨u, u1, u2, _⟩ := run_und hT e1 w
  obtain rfl := D_slice u2
  obtain ⟨hz, _⟩ := int_inv (hev _ _ hi)
  obtain ⟨l, g1, g2⟩ := hm.blk hd _ (hrd (hd, .own n B rows ln) (by simp))
  rcases (hev _ _ hx).sl_inv g1 with ⟨b, cap, rfl, hle, hv⟩ | ⟨rfl, rfl, hv⟩
  · refine ⟨.pointer (some ⟨b, z.toNat * n + 0, none⟩), ?_, .vpt g1⟩
    simp [execOp, ho, hv, hz, Instr.indexAt, asIntOf, u1, h0, h1, run_size hT e2, hn, add_mk]
  · omega
end
end Go.Proofs.YtioafhkkkmfkdaaGreatDoor.am

namespace Go.Proofs.YtioafhkkkmfkdaaGreatDoor.am
open Go
set_option linter.unusedSimpArgs false
def cellOO (g : Gh) (w : World) (ln : List ((Nat × Nat) × (Nat × Nat))) (i j : Nat) (t : Tr) (c : Value) : Prop :=
  (lnk ln i j = none → ∃ x, t = .v x ∧ c = x ∧ good x) ∧ ∀ h len, lnk ln i j = some (h, len) → Rep g w c (.sl h len)
theorem rowsOO_ok {g : Gh} {w : World} {ρ : Operand → Value} {ev : Operand → Option AV} {size : Nat} (hev : ∀ x b, ev x = some b → Rep g w (ρ x) b) : ∀ (ps : List (Nat × Operand)) (k : Nat) (rows : List (List Tr)) (ln : List ((Nat × Nat) × (Nat × Nat))), rowsOO size k (ps.map fun p => (p.1, ev p.2)) = some (rows, ln) →
    vals ρ ps = ((ps.map fun p => ρ p.2).zipIdx k).map (fun x => (x.2, x.1)) ∧ rows.length = ps.length ∧ (∀ v ∈ ps.map (fun p => ρ p.2), v.cells.size = size) ∧ (∀ r ∈ rows, r.length = size) ∧ (∀ i j, lnk ln i j ≠ none → k ≤ i) ∧
      ∀ (i j : Nat) (row : List Tr) (t : Tr) (c : Value), rows[i]? = some row → row[j]? = some t → ((ps.map fun p => ρ p.2).flatMap fun v => v.cells.toList)[i * size + j]? = some c → cellOO g w ln (k + i) j t c
  | [], k, rows, ln, h => by cases h; exact ⟨rfl, rfl, by simp, by simp, fun i j q => absurd rfl q, fun i j row t c h => by simp at h⟩
  | (i, x) :: ps, k, rows, ln, h => by
    simp only [List.map_cons] at h
    unfold rowsOO at h
    cases hb : Nat.beq i k with
    | false => rw [hb] at h; cases h
    | true =>
      rw [hb, cond_true] at h
      have hik := Nat.eq_of_beq_eq_true hb
      subst hik
      split at h
      case h_2 => cases h
      rename_i a e1
      split at h
      case h_2 => cases h
      rename_i as e2
      cases hb2 : (Nat.beq as.length size && as.all AV.one) with
      | false => rw [hb2] at h; cases h
      | true =>
        rw [hb2, cond_true] at h
        simp only [Bool.and_eq_true] at hb2
        have hcs := Nat.eq_of_beq_eq_true hb2.1
        split at h
        case h_2 => cases h
        rename_i ts ls rows' ln' e3 e4
        cases h
        obtain ⟨h1, h2, h3, h4, h5, h6⟩ := rowsOO_ok hev ps _ rows' ln' e4
        obtain ⟨o1, o2, o3⟩ := ocells_ok e3
        have hC := (hev x a e1).cells e2 hb2.2
        have hCz := hC.1
        refine ⟨?_, by simp [h2], fun v hv => ?_, fun r hr => ?_, fun i' j' q => ?_, fun i' j row t c r1 r2 r3 => ?_⟩
        · show (i, ρ x) :: vals ρ ps = _
          rw [h1]; rfl
        · simp only [List.map_cons, List.mem_cons] at hv
          rcases hv with rfl | hv
          · omega
          · exact h3 v hv
        · simp only [List.mem_cons] at hr
          rcases hr with rfl | hr
          · omega
          · exact h4 r hr
        · rw [lnk_append] at q
          cases e : lnk ls i' j' with
          | some y => have := o2 i' j' (by rw [e]; simp); omega
          | none => rw [e] at q; have := h5 i' j' q; omega
        · simp only [List.map_cons, List.flatMap_cons] at r3
          unfold cellOO
          cases i' with
          | zero =>
            simp at r1; subst r1
            have hjl : j < as.length := by rw [← o1]; exact (List.getElem?_eq_some_iff.1 r2).1
            rw [Nat.zero_mul, Nat.zero_add, List.getElem?_append_left (by rw [Array.length_toList]; omega)] at r3
            have hln' : lnk ln' i j = none := by
              cases e : lnk ln' i j with
              | none => rfl
              | some y => have := h5 i j (by rw [e]; simp); omega
            have ha : as[j]? = some as[j] := by simp [hjl]
            have hrep := hC.2.2 j c _ (by simpa using r3) ha
            rw [Nat.add_zero, lnk_append]
            rcases o3 j _ ha with ⟨y, a1, a2, a3⟩ | ⟨hh, len, a1, a2⟩
            · rw [Nat.zero_add] at a3
              rw [a3]
              rw [a2] at r2; cases r2
              rw [a1] at hrep
              refine ⟨fun _ => ⟨y, rfl, ?_⟩, fun hh len q => ?_⟩
              · exact val_inv hrep
              · simp only [hln'] at q; cases q
            · rw [Nat.zero_add] at a2
              rw [a2]
              rw [a1] at hrep
              exact ⟨fun q => (by cases q), fun _ _ q => (by cases q; exact hrep)⟩
          | succ i' =>
            rw [List.getElem?_append_right (by rw [Array.length_toList, Nat.succ_mul]; omega), Array.length_toList, show (i' + 1) * size + j - (ρ x).cells.size = i' * size + j by rw [Nat.succ_mul]; omega] at r3
            have := h6 i' j row t c (by simpa using r1) r2 r3
            have hls : lnk ls (i + (i' + 1)) j = none := by
              cases e : lnk ls (i + (i' + 1)) j with
              | none => rfl
              | some y => have := o2 _ j (by rw [e]; simp); omega
            rw [lnk_append, hls]
            rw [show i + 1 + i' = i + (i' + 1) by omega] at this
            exact this
section
variable {P : Program} {T : Ty} {o : Oper} {m : Mem} {nh : Nat} {ev : Operand → Option AV} {K : KK}
theorem ptrsOf_ok {g : Gh} {w : World} {ρ : Operand → Value} (hev : ∀ x b, ev x = some b → Rep g w (ρ x) b) : ∀ (ps : List (Nat × Operand)) (k : Nat) (l : List AV), ptrsOf k (ps.map fun p => (p.1, ev p.2)) = some l →
    vals ρ ps = ((ps.map fun p => ρ p.2).zipIdx k).map (fun x => (x.2, x.1)) ∧ l.length = ps.length ∧ (∀ v ∈ ps.map (fun p => ρ p.2), v.cells = #[v]) ∧ (∀ a ∈ l, a.one = true) ∧
      ∀ (i : Nat) (c : Value) (a : AV), (ps.map fun p => ρ p.2)[i]? = some c → l[i]? = some a → Rep g w c a
  | [], k, l, h => by cases h; exact ⟨rfl, rfl, by simp, by simp, fun i c a h => by simp at h⟩
  | (i, x) :: ps, k, l, h => by
    simp only [List.map_cons] at h
    unfold ptrsOf at h
    cases hb : Nat.beq i k with
    | false => rw [hb] at h; cases h
    | true =>
      rw [hb, cond_true] at h
      have hik := Nat.eq_of_beq_eq_true hb
      subst hik
      split at h
      case h_2 => cases h
      rename_i hd off e1
      split at h
      case h_2 => cases h
      rename_i l' e3
      cases h
      obtain ⟨h1, h2, h3, h4, h5⟩ := ptrsOf_ok hev ps _ l' e3
      have hr := hev x _ e1
      have hc : (ρ x).cells = #[ρ x] := by
        generalize hv : ρ x = v at hr
        have := hr.one rfl
        cases hr with
        | ptr => rfl
        | ptrD _ h1 => cases v <;> first | rfl | cases h1
      refine ⟨?_, by simp [h2], fun v hv => ?_, fun a ha => ?_, fun j c a e1 e2 => ?_⟩
      · show (i, ρ x) :: vals ρ ps = _
        rw [h1]; rfl
      · simp only [List.map_cons, List.mem_cons] at hv
        rcases hv with rfl | hv
        · exact hc
        · exact h3 v hv
      · simp only [List.mem_cons] at ha
        rcases ha with rfl | ha
        · rfl
        · exact h4 a ha
      · cases j with
        | zero => simp at e1 e2; subst e1; subst e2; exact hr
        | succ j => exact h5 j c a (by simpa using e1) (by simpa using e2)
theorem flat_one : ∀ (l : List Value), (∀ v ∈ l, v.cells = #[v]) → (l.flatMap fun v => v.cells.toList) = l
  | [], _ => rfl
  | v :: l, h => by
    rw [List.flatMap_cons, h v (by simp), flat_one l fun x hx => h x (by simp [hx])]
    rfl
theorem l_buildSliceP (hT : TOk P T) {t e len : Nat} {te : TyI} {ps : Array (Nat × Operand)} {a b : Nat} {z : List Z} {q : Bool} {l : List AV} (ho : o.op = .buildSlice t len ps) (ht : lk T t = some ⟨.slice e, a, b, z, q⟩) (he : lk T e = some te)
    (hr : ptrsOf 0 (parts ev ps) = some l) (hl : l.length = len) (h1 : te.size = 1) (h2 : len ≤ 16777216) (h3 : len * te.bytes ≤ 140737488351232) (h0 : 1 ≤ len) (hK : K (.ifc (2 * HMod + len) (.ptr nh 0)) [] [(nh, some (.cells e l))]) : LOk P o m nh ev K := by
  refine ⟨_, _, _, hK, by simp, by simp, fun g w m' ρ hm hn hrd hev => ?_⟩
  obtain ⟨ti, u, zt, _, u2, u3, _⟩ := hT.info ht
  obtain rfl := D_slice u3
  obtain ⟨ti', u', z', i1, _, _, i4, _, i6, i7, i8⟩ := hT.info he
  obtain ⟨q1, q2, q3, q4, q5⟩ := ptrsOf_ok hev ps.toList 0 l hr
  have e1 : (Array.map (fun x => (x.fst, ρ x.snd)) ps).toList = vals ρ ps.toList := by simp [vals]
  have hz := (zcells_cells i7).1
  have hfl := Great.fill_whole (s := te.size) (by omega) (ps.toList.map fun p => ρ p.2) ((Array.range (len * te.size)).map (z'.cells[· % z'.cells.size]!)) (fun v hv => by rw [q3 v hv, h1]; rfl) (by simp; rw [← hl, q2]; simp)
  have hrun := run_buildSlice (P := P) w t e len (Array.map (fun x => (x.fst, ρ x.snd)) ps) _ ti' z' u2 i1 i6 (by rw [i4, h1]; omega) (by rw [i4, h1]; omega) (by rw [i4, e1, q1]; exact hfl)
  rw [flat_one _ q3] at hrun
  have hloc : ∀ b, Loc.b (.blk w.heap.size) = some b → b = w.heap.size := fun b e => by cases e; rfl
  have hg := grow_alloc (w := w) hm.xlt hn (.cells (ps.toList.map fun p => ρ p.2).toArray e) hloc
  refine LRes.new hm hn (.cells (ps.toList.map fun p => ρ p.2).toArray e) (.blk w.heap.size) hloc _ (.slice (some ⟨w.heap.size, 0, none⟩) len len) ?_ (fun _ => ⟨_, _, rfl, heap_alloc_new w _, by simpa using q2.symm, q4, fun i c a e1 e2 => ?_⟩) (.psl (.ptr (gset_same ..)))
  · simp only [execOp, ho, Sem.run_bind, hrun, Result.andThen_ok]
    rfl
  · exact (q5 i c a (by simpa using e1) e2).grow hg
theorem l_buildSliceO (hT : TOk P T) {t e len : Nat} {te : TyI} {ps : Array (Nat × Operand)} {a b : Nat} {z : List Z} {q : Bool} {rows : List (List Tr)} {ln : List ((Nat × Nat) × (Nat × Nat))} (ho : o.op = .buildSlice t len ps) (ht : lk T t = some ⟨.slice e, a, b, z, q⟩) (he : lk T e = some te)
    (hr : rowsOO te.size 0 (parts ev ps) = some (rows, ln)) (hl : rows.length = len) (h1 : 1 ≤ te.size) (h2 : len * te.size ≤ 16777216) (h3 : len * te.bytes ≤ 140737488351232) (h0 : 1 ≤ len) (hK : K (.sl nh len) [] [(nh, some (.own te.size te.bytes rows ln))]) : LOk P o m nh ev K := by
  refine ⟨_, _, _, hK, by simp, by simp, fun g w m' ρ hm hn hrd hev => ?_⟩
  obtain ⟨ti, u, zt, _, u2, u3, _⟩ := hT.info ht
  obtain rfl := D_slice u3
  obtain ⟨ti', u', z', i1, _, _, i4, _, i6, i7, i8⟩ := hT.info he
  obtain ⟨q1, q2, q3, q4, _, q5⟩ := rowsOO_ok hev ps.toList 0 rows ln hr
  have e1 : (Array.map (fun x => (x.fst, ρ x.snd)) ps).toList = vals ρ ps.toList := by simp [vals]
  have hpos : 0 < len * te.size := Nat.mul_pos (by omega) (by omega)
  have hz := (zcells_cells i7).1
  have hfl := Great.fill_whole (s := te.size) (by omega) (ps.toList.map fun p => ρ p.2) ((Array.range (len * te.size)).map (z'.cells[· % z'.cells.size]!)) q3 (by simp; rw [← hl, q2]; simp)
  have hrun := run_buildSlice (P := P) w t e len (Array.map (fun x => (x.fst, ρ x.snd)) ps) _ ti' z' u2 i1 i6 (by rw [i4]; omega) (by rw [i4]; omega) (by rw [i4, e1, q1]; exact hfl)
  have hloc : ∀ b, Loc.b (.row w.heap.size len) = some b → b = w.heap.size := fun b e => by cases e; rfl
  have hg := grow_alloc (w := w) hm.xlt hn (.cells ((ps.toList.map fun p => ρ p.2).flatMap fun v => v.cells.toList).toArray e) hloc
  have hm63 : len ≤ 9223372036854775807 := by
    have : len * 1 ≤ len * te.size := Nat.mul_le_mul_left _ h1
    omega
  have hsz : ((ps.toList.map fun p => ρ p.2).flatMap fun v => v.cells.toList).length = len * te.size := by
    have : ∀ (l : List Value), (∀ v ∈ l, v.cells.size = te.size) → (l.flatMap fun v => v.cells.toList).length = l.length * te.size := by
      intro l hl
      induction l with
      | nil => simp
      | cons v l ih => rw [List.flatMap_cons, List.length_append, Array.length_toList, hl v (by simp), ih (fun v hv => hl v (by simp [hv])), List.length_cons, Nat.succ_mul]; omega
    rw [this _ q3, ← hl, q2]; simp
  generalize ((ps.toList.map fun p => ρ p.2).flatMap fun v => v.cells.toList) = cl at *
  refine LRes.new hm hn (.cells cl.toArray e) (.row w.heap.size len) hloc _ (.slice (some ⟨w.heap.size, 0, none⟩) len len) ?_ (fun _ => ⟨by rw [hl]; omega, by omega, .inr ⟨_, len, cl.toArray, e, fun _ _ _ => False, rfl, heap_alloc_new w _, by omega, hm63, by simpa using hsz, q4, fun _ _ _ h => h.elim, fun _ _ _ _ _ h => h.elim, fun i j row t c r1 r2 r3 => ?_⟩⟩) (.sl (gset_same ..) (Nat.le_refl _))
  · simp only [execOp, ho, Sem.run_bind, hrun, Result.andThen_ok]
    rfl
  · obtain ⟨c1, c2⟩ := q5 i j row t c r1 r2 (by simpa using r3)
    rw [Nat.zero_add] at c1 c2
    exact ⟨fun q => by obtain ⟨x, rfl, rfl, hx⟩ := c1 q; exact .v hx, fun h len q => (c2 h len q).grow hg⟩
end
end Go.Proofs.YtioafhkkkmfkdaaGreatDoor.am

namespace Go.Proofs.YtioafhkkkmfkdaaGreatDoor.am
open Go
set_option linter.unusedSimpArgs false
set_option linter.unusedVariables false

/-! a handle is taken into another one's tree -/
def gpack (g : Gh) (h c : Nat) : Gh := ⟨fun k => if k = c then .dead else g k, g.X, [], fun k b => g.F k b ∨ (k = h ∧ Owns g c b)⟩
section
variable {g : Gh} {w : World} {m : Mem} {h c : Nat}
theorem gpack_ne {k : Nat} (hk : k ≠ c) : gpack g h c k = g k := by simp [gpack, hk]
theorem gpack_F {k : Nat} (hk : k ≠ h) : (gpack g h c).F k = g.F k := by funext b; simp [gpack, hk]
theorem gpack_owns {k b : Nat} (ho : Owns (gpack g h c) k b) : k ≠ c ∧ (Owns g k b ∨ (k = h ∧ Owns g c b)) := by
  obtain ⟨l, e1, e2⟩ := ho
  change (if k = c then HS.dead else g k) = .live l at e1
  split at e1
  · cases e1
  · rename_i hk
    refine ⟨hk, ?_⟩
    rcases e2 with e2 | e2 | e2
    · exact .inl ⟨l, e1, .inl e2⟩
    · exact .inl ⟨l, e1, .inr e2⟩
    · exact .inr e2
theorem grow_pack {l : Loc} (hc : g c = .live l) : Grow g w (gpack g h c) w := by
  refine ⟨rfl, rfl, rfl, Nat.le_refl _, fun _ _ => rfl, fun _ _ => rfl, rfl, fun k hk => ?_, fun k lx hk => ?_, fun k b hk => ?_⟩
  · by_cases e : k = c
    · subst e; simp [gpack]
    · rw [gpack_ne e]; exact hk
  · by_cases e : k = c
    · subst e
      have : gpack g h k k = .dead := by simp [gpack]
      rw [this] at hk; cases hk
    · rw [gpack_ne e] at hk; exact .inl hk
  · rcases (gpack_owns hk).2 with q | ⟨_, q⟩
    · exact .inl ⟨k, q⟩
    · exact .inl ⟨c, q⟩
theorem BRep.monoF {l : Loc} {F F' : Nat → Prop} {b : Blk} (hb : BRep g w l F b) (hF : ∀ k, F k → F' k) : BRep g w l F' b := by
  cases b with
  | cells t as => exact hb
  | vec e n B rows => exact hb
  | map kd es => exact hb
  | own n B rows ln =>
    obtain ⟨hB, hn, hv⟩ := hb
    refine ⟨hB, hn, ?_⟩
    rcases hv with hv | ⟨k, cap, cur, e, Fs, rfl, e1, e2, e3, e4, e5, e6, e7, e8⟩
    · exact .inl hv
    · exact .inr ⟨k, cap, cur, e, Fs, rfl, e1, e2, e3, e4, e5, fun i j c h => ⟨hF c (e6 i j c h).1, (e6 i j c h).2⟩, e7, e8⟩
theorem mst_absorb {l l2 : Loc} (hm : MSt g w m) (hh : g h = .live l) (hc : g c = .live l2) (hne : h ≠ c) : MSt (gpack g h c) w (updM m [(c, none)]) := by
  have hg := grow_pack (w := w) (h := h) hc
  refine ⟨fun k b hb => ?_, fun k k' b e1 e2 => ?_, fun k b e1 => ?_, hm.xlt, fun k b e1 => ?_, hm.gl.grow hg⟩
  · by_cases e : c = k
    · subst e; simp [updM, lk] at hb
    · have e' : Nat.beq c k = false := beq_ne e
      have hb' : m k = some b := by simpa [updM, lk, e'] using hb
      obtain ⟨l1, e1, e2⟩ := hm.blk k b hb'
      refine ⟨l1, by rw [gpack_ne (fun q => e q.symm), e1], BRep.monoF (e2.grow hg fun k hk => rfl) fun x hx => .inl hx⟩
  · obtain ⟨q1, q2⟩ := gpack_owns e1
    obtain ⟨q3, q4⟩ := gpack_owns e2
    rcases q2 with q2 | ⟨q2, q5⟩ <;> rcases q4 with q4 | ⟨q4, q6⟩
    · exact hm.inj k k' b q2 q4
    · exact absurd (hm.inj k c b q2 q6) q1
    · exact absurd (hm.inj k' c b q4 q5) q3
    · rw [q2, q4]
  · rcases (gpack_owns e1).2 with q | ⟨_, q⟩
    · exact hm.lt k b q
    · exact hm.lt c b q
  · rcases (gpack_owns e1).2 with q | ⟨_, q⟩
    · exact hm.xl k b q
    · exact hm.xl c b q
theorem asO_rep {l : Loc} {F : Nat → Prop} {b : Blk} {n B : Nat} {rows : List (List Tr)} {ln : List ((Nat × Nat) × (Nat × Nat))} {fl : Bool} (hb : BRep g w l F b) (ha : b.asO = some (n, B, rows, ln, fl)) (hl : leafC fl rows) : BRep g w l F (.own n B rows ln) := by
  unfold Blk.asO at ha
  split at ha
  · cases ha; exact hb
  · cases ha
    obtain ⟨hB, hn, hv⟩ := hb
    refine ⟨hB, hn, ?_⟩
    rcases hv with hv | ⟨k, cap, cur, rfl, e1, e2, e3, e4, e5, e6⟩
    · exact .inl hv
    · refine .inr ⟨k, cap, cur, _, fun _ _ _ => False, rfl, e1, e2, e3, e4, e5, fun _ _ _ h => h.elim, fun _ _ _ _ _ h => h.elim, fun i j row t c q1 q2 q3 => ⟨fun _ => ?_, fun _ _ q => by cases q⟩⟩
      obtain ⟨c', c1, c2⟩ := vec_row e5 e6 q1 q2
      rw [q3] at c1; cases c1
      obtain ⟨x, rfl⟩ := hl row (List.mem_of_getElem? q1) t (List.mem_of_getElem? q2)
      cases c2 with
      | v hx => exact RepO.v hx
  · cases ha
end
theorem lnk_shift (k : Nat) : ∀ (ln : List ((Nat × Nat) × (Nat × Nat))) (i j : Nat), (i < k → lnk (lnShift k ln) i j = none) ∧ lnk (lnShift k ln) (k + i) j = lnk ln i j
  | [], i, j => ⟨fun _ => rfl, rfl⟩
  | ((a, b), x) :: r, i, j => by
    obtain ⟨h1, h2⟩ := lnk_shift k r i j
    refine ⟨fun h => ?_, ?_⟩
    · show lnk (((k + a, b), x) :: lnShift k r) i j = none
      rw [lnk_cons, if_neg (by omega), h1 h]
    · show lnk (((k + a, b), x) :: lnShift k r) (k + i) j = _
      rw [lnk_cons, lnk_cons, h2]
      by_cases q : a = i ∧ b = j
      · rw [if_pos q, if_pos (by omega)]
      · rw [if_neg q, if_neg (by omega)]
theorem lnk_lt {k : Nat} : ∀ {ln : List ((Nat × Nat) × (Nat × Nat))}, lnLt k ln → ∀ i j, k ≤ i → lnk ln i j = none
  | [], _, i, j, _ => rfl
  | ((a, b), x) :: r, h, i, j, hi => by
    have h1 : a < k := h.1
    rw [lnk_cons, if_neg (by omega), lnk_lt h.2 i j hi]

/-! the run -/
section
variable {P : Program} {T : Ty}
/-- an append behind a slice that is nil -/
theorem append_any0 (hT : TOk P T) {w : World} {t e ty : Nat} {te : TyI} {a b : Nat} {z : List Z} {q : Bool} (ht : lk T t = some ⟨.slice e, a, b, z, q⟩) (he : lk T e = some te) (hn : 1 ≤ te.size)
    {b2 o2 mm c : Nat} {cl : List Value} (hl : cl.length = mm * te.size) (hmm : 1 ≤ mm)
    (hc : ∀ (j : Nat) (u : Value), cl[j]? = some u → w.cell? ⟨b2, o2 + j, none⟩ = some u) (h1 : ∀ u ∈ cl, u.oneCell' = true) (h63 : mm ≤ 9223372036854775807) (hB : mm * te.bytes ≤ 150000000000000) (row : Option Nat) :
    ∃ w' k' cap' cur' e', (Builtin.append_ #[t, t] ty #[.slice none 0 0, .slice (some ⟨b2, o2, none⟩) mm c]).run P w = .ok (.slice (some ⟨k', 0, none⟩) mm cap') w' ∧ w.grownBy w' row ∧
      w'.heap[k']? = some (.cells cur' e' (0, 0)) ∧ mm ≤ cap' ∧ cap' ≤ 9223372036854775807 ∧ cur'.size = cap' * te.size ∧ (∀ (j : Nat) (u : Value), cl[j]? = some u → cur'[j]? = some u) ∧ k' = w.heap.size := by
  obtain ⟨v', w', r1, r2, r3, r4⟩ := append_own (ty := ty) hT (g := ⟨fun _ => .un, fun _ => False, [], fun _ _ => False⟩) ht he hn (World.ownsRow_nil w 0 e te.size) (ao := some ⟨b2, o2, none⟩) (mm := mm) (c := c) hl (fun j u hj => ⟨b2, o2, rfl, hc j u hj⟩) h1 (by omega) (by rw [Nat.zero_add]; exact hB)
  rw [Nat.zero_add, List.nil_append] at r2
  obtain ⟨_, ⟨rfl, rn⟩ | ⟨k, cap, cur, rfl, _, k1, k2, k3, k4, k5⟩⟩ := r2
  · omega
  · have hk : k = w.heap.size := by
      rcases r4 with r4 | r4
      · simp [Value.ownBlock] at r4
      · simpa [Value.ownBlock] using r4
    refine ⟨w', k, cap, cur, e, r1, ⟨r3.os, r3.tape, r3.output, r3.size, fun i hi _ => r3.block i hi (by simp [Value.ownBlock])⟩, k1, k2, by simpa [maxLen] using k3, k4, fun j u hj => ?_, hk⟩
    rw [← k5, List.getElem?_take] at hj
    split at hj
    · simpa using hj
    · cases hj
end
section
variable {P : Program} {T : Ty} {o : Oper} {m : Mem} {nh : Nat} {ev : Operand → Option AV} {K : KK}
theorem mO_inv {h : Nat} {b : Blk} {x : Nat × Nat × List (List Tr) × List ((Nat × Nat) × (Nat × Nat)) × Bool} (hm : mO m h = some (b, x)) : m h = some b ∧ b.asO = some x := by
  unfold mO at hm
  split at hm
  · rename_i b0 e0
    split at hm
    · rename_i x0 e1
      cases hm
      exact ⟨e0, e1⟩
    · cases hm
  · cases hm
/-- a live slice's value, and its cells -/
theorem own_row {g : Gh} {w : World} {h len n B : Nat} {rows : List (List Tr)} {ln : List ((Nat × Nat) × (Nat × Nat))} {l : Loc} {v : Value} (g1 : g h = .live l) (hb : BRep g w l (g.F h) (.own n B rows ln)) (hv : Rep g w v (.sl h len)) (hl : len = rows.length) (h1 : 1 ≤ len) :
    ∃ b cap cur e, ∃ Fs : Nat → Nat → Nat → Prop, l = .row b cap ∧ v = .slice (some ⟨b, 0, none⟩) len cap ∧ w.heap[b]? = some (.cells cur e (0, 0)) ∧ rows.length ≤ cap ∧ cap ≤ 9223372036854775807 ∧ cur.size = cap * n ∧
      (∀ row ∈ rows, row.length = n) ∧ (∀ i j c, Fs i j c → g.F h c ∧ c ≠ b) ∧ (∀ i j i' j' c, Fs i j c → Fs i' j' c → i = i' ∧ j = j') ∧
      (∀ (i j : Nat) (row : List Tr) (t : Tr) (c : Value), rows[i]? = some row → row[j]? = some t → cur[i * n + j]? = some c → (lnk ln i j = none → RepO w (Fs i j) c t) ∧ ∀ h len, lnk ln i j = some (h, len) → Rep g w c (.sl h len)) := by
  obtain ⟨hB, hn, hx⟩ := hb
  rcases hx with ⟨_, hr⟩ | ⟨b, cap, cur, e, Fs, rfl, q1, q2, q3, q4, q5, q6, q7, q8⟩
  · rw [hr] at hl; simp at hl; omega
  · rcases hv.sl_inv g1 with ⟨b', cap', e0, e1, e2⟩ | ⟨e0, _⟩
    · cases e0
      exact ⟨b, cap, cur, e, Fs, rfl, e2, q1, q2, q3, q4, q5, q6, q7, q8⟩
    · cases e0
/-- the cells of some rows -/
theorem own_cells {g : Gh} {w : World} {b e n len cap : Nat} {rows : List (List Tr)} {ln : List ((Nat × Nat) × (Nat × Nat))} {cur : Array Value} {Fs : Nat → Nat → Nat → Prop} (hn : 0 < n) (h1 : w.heap[b]? = some (.cells cur e (0, 0))) (hcap : rows.length ≤ cap) (h4 : cur.size = cap * n) (h5 : ∀ row ∈ rows, row.length = n)
    (h8 : ∀ (i j : Nat) (row : List Tr) (t : Tr) (c : Value), rows[i]? = some row → row[j]? = some t → cur[i * n + j]? = some c → (lnk ln i j = none → RepO w (Fs i j) c t) ∧ ∀ h len, lnk ln i j = some (h, len) → Rep g w c (.sl h len)) (hl : len = rows.length) :
    ∃ cl : List Value, cl.length = len * n ∧ (∀ (j : Nat) (u : Value), cl[j]? = some u → w.cell? ⟨b, 0 + j, none⟩ = some u) ∧ (∀ u ∈ cl, u.oneCell' = true) ∧ ∀ j, j < len * n → cl[j]? = cur[j]? := by
  have hle : len * n ≤ cap * n := Nat.mul_le_mul_right _ (by omega)
  refine ⟨cur.toList.take (len * n), by simp; omega, fun j u hj => ?_, fun u hu => ?_, fun j hj => by rw [List.getElem?_take, if_pos hj, Array.getElem?_toList]⟩
  · rw [Nat.zero_add, heap_cell h1]
    rw [List.getElem?_take] at hj
    split at hj
    · simpa using hj
    · cases hj
  · obtain ⟨j, hj⟩ := List.mem_iff_getElem?.1 hu
    rw [List.getElem?_take] at hj
    split at hj
    · rename_i hjl
      have hd : j / n < rows.length := by rw [← hl]; exact Nat.div_lt_of_lt_mul (by rw [Nat.mul_comm]; exact hjl)
      have hr : rows[j / n]? = some rows[j / n] := by simp [hd]
      have hrl := h5 _ (List.mem_of_getElem? hr)
      have hm := Nat.mod_lt j hn
      have ht : (rows[j / n])[j % n]? = some (rows[j / n])[j % n] := by simp [hrl, hm]
      have hdm : j / n * n + j % n = j := by have := Nat.div_add_mod j n; rw [Nat.mul_comm] at this; exact this
      obtain ⟨u1, u2⟩ := h8 (j / n) (j % n) _ _ u hr ht (by rw [hdm]; simpa using hj)
      cases hlk : lnk ln (j / n) (j % n) with
      | none => exact (u1 hlk).one
      | some p => obtain ⟨a, b⟩ := p; exact (u2 a b hlk).one rfl
    · cases hj
theorem l_appendO (hT : TOk P T) {t : Nat} {x y : Operand} {ax ay : AV} (ho : o.op = .call { callee := .builtin .append, args := #[x, y], argTypes := #[t, t] }) (hx : ev x = some ax) (hy : ev y = some ay) (h : aappendO T m nh t ax ay K) : LOk P o m nh ev K := by
  have hrun : ∀ (ρ : Operand → Value) (w w' : World) (v : Value), (Builtin.append_ #[t, t] o.type #[ρ x, ρ y]).run P w = .ok v w' → (execOp ρ o).run P w = .ok (.value v) w' := fun ρ w w' v e => by
    simp [execOp, ho, resolve, invoke, builtin, e]
  unfold aappendO at h
  split at h
  case h_2 => exact l_append hT ho hx hy h
  split at h
  case h_2 => exact h.elim
  rename_i e a0 b0 z0 q0 e1
  split at h
  case h_2 => exact h.elim
  rename_i te h2 len2 e2 ey
  split at h
  case h_2 => exact h.elim
  rename_i b2 n2 B2 rows2 ln2 f2 e3
  obtain ⟨m2, o2⟩ := mO_inv e3
  cases hcond : (Nat.beq n2 te.size && Nat.beq B2 te.bytes && Nat.ble 1 te.size && Nat.ble 1 te.bytes) with
  | false => rw [hcond] at h; exact h.elim
  | true =>
  rw [hcond, cond_true] at h
  simp only [Bool.and_eq_true] at hcond
  obtain ⟨⟨⟨c1, c2⟩, c3⟩, c4⟩ := hcond
  have c1 := Nat.eq_of_beq_eq_true c1
  have c2 := Nat.eq_of_beq_eq_true c2
  subst c1; subst c2
  have hs1 := Nat.le_of_ble_eq_true c3
  have hb1 := Nat.le_of_ble_eq_true c4
  split at h
  · -- behind nil
    obtain ⟨hl2, h12, hlf, hK⟩ := h
    refine ⟨_, _, _, hK, fun p hp => ?_, fun p hp => ?_, fun g w m' ρ hm hn hrd hev => ?_⟩
    · simp at hp; subst hp; exact m2
    · simp at hp
      rcases hp with rfl | rfl
      · exact .inl rfl
      · exact .inr ⟨(h2, b2), by simp, rfl⟩
    obtain ⟨l2, g1, g2⟩ := hm.blk h2 _ (hrd (h2, b2) (by simp))
    have g2 := asO_rep g2 o2 hlf
    have hB2 := g2.1
    obtain ⟨b, cap, cur, e0, Fs, rfl, v1, q1, q2, q3, q4, q5, q6, q7, q8⟩ := own_row g1 g2 (hev _ _ hy) hl2 h12
    obtain ⟨cl, r1, r2, r3, r4⟩ := own_cells (by omega) q1 q2 q4 q5 q8 hl2
    have hv0 : ρ x = .slice none 0 0 := (val_inv (hev _ _ hx)).1
    have h63 : len2 * 1 ≤ len2 * te.bytes := Nat.mul_le_mul_left _ hb1
    obtain ⟨w', k', cap', cur', e', s1, s2, s3, s4, s5, s6, s7, rfl⟩ := append_any0 (w := w) (ty := o.type) (c := cap) hT e1 e2 hs1 r1 h12 r2 r3 (by rw [← hl2] at hB2; omega) (by rw [← hl2] at hB2; omega) (some b)
    rw [← v1, ← hv0] at s1
    have hnew : ∀ c, (Loc.row w.heap.size cap').b = some c → (Loc.row b cap).b = some c ∨ w.heap.size ≤ c := fun c ec => by cases ec; exact .inr (Nat.le_refl _)
    have hG := grow_append hm (l := .row b cap) (l' := .row w.heap.size cap') (hd := some h2) hn (fun h e => by cases e; exact g1) s2 (by simp) hnew
    refine ⟨_, w', .inl ⟨_, hrun ρ w w' _ s1, .sl (b := w.heap.size) (cap := cap') (gapp_new ..) s4⟩, mst_append (l := .row b cap) (l' := .row w.heap.size cap') (hd := some h2) hm hn (fun h e => by cases e; exact g1) s2 (by simp) hnew (fun c ec => by cases ec; exact (Array.getElem?_eq_some_iff.1 s3).1) ?_, hG, fun k k1 k2 => ?_⟩
    · refine ⟨hB2, by omega, .inr ⟨w.heap.size, cap', cur', e', Fs, rfl, s3, by omega, s5, s6, q5, fun i j c hc => ⟨.inl ⟨rfl, h2, rfl, (q6 i j c hc).1⟩, fun ec => ?_⟩, q7, fun i j row t c p1 p2 p3 => ?_⟩⟩
      · have := hm.lt h2 c ⟨_, g1, .inr (q6 i j c hc).1⟩; omega
      · have hrl := q5 row (List.mem_of_getElem? p1)
        have hil := (List.getElem?_eq_some_iff.1 p1).1
        have hjl := (List.getElem?_eq_some_iff.1 p2).1
        have hlt : i * te.size + j < len2 * te.size := by
          have : (i + 1) * te.size ≤ len2 * te.size := Nat.mul_le_mul_right _ (by omega)
          rw [Nat.succ_mul] at this; omega
        have hcl : cl[i * te.size + j]? = some (cl[i * te.size + j]'(by rw [r1]; exact hlt)) := by simp [r1, hlt]
        have := s7 _ _ hcl
        rw [p3] at this
        have hcc : cur[i * te.size + j]? = some c := by rw [← r4 _ hlt, hcl, this]
        obtain ⟨u1, u2⟩ := q8 i j row t c p1 p2 hcc
        exact ⟨fun hk => (u1 hk).world fun b' hb' => s2.block b' (hm.lt h2 b' ⟨_, g1, .inr (q6 i j b' hb').1⟩) fun ee => (q6 i j b' hb').2 (by cases ee; rfl), fun h' len' hk => (u2 h' len' hk).grow hG⟩
    · have : h2 ≠ k := fun e => by rw [e] at g1; rw [k2] at g1; cases g1
      rw [gapp_un k1 (by simp [this]), k2]
  · -- behind a slice of one's own
    rename_i hh len
    split at h
    case h_2 => exact h.elim
    rename_i b n B rows ln f e4
    obtain ⟨m1, o1⟩ := mO_inv e4
    cases hcond : (Nat.beq n te.size && Nat.beq B te.bytes && !Nat.beq hh h2) with
    | false => rw [hcond] at h; exact h.elim
    | true =>
    rw [hcond, cond_true] at h
    simp only [Bool.and_eq_true, Bool.not_eq_true'] at hcond
    obtain ⟨⟨c1, c2⟩, hne⟩ := hcond
    have c1 := Nat.eq_of_beq_eq_true c1
    have c2 := Nat.eq_of_beq_eq_true c2
    have hne : hh ≠ h2 := Nat.ne_of_beq_eq_false hne
    subst c1; subst c2
    obtain ⟨hl, hl2, h12, hB, hlf, hlf2, hlt, hK⟩ := h
    refine ⟨_, _, _, hK, fun p hp => ?_, fun p hp => ?_, fun g w m' ρ hm hn hrd hev => ?_⟩
    · simp at hp
      rcases hp with rfl | rfl
      · exact m1
      · exact m2
    · simp at hp
      rcases hp with rfl | rfl | rfl
      · exact .inl rfl
      · exact .inr ⟨(hh, b), by simp, rfl⟩
      · exact .inr ⟨(h2, b2), by simp, rfl⟩
    obtain ⟨l2, g3, g4⟩ := hm.blk h2 _ (hrd (h2, b2) (by simp))
    have g4 := asO_rep g4 o2 hlf2
    obtain ⟨l1, g1, g2⟩ := hm.blk hh _ (hrd (hh, b) (by simp))
    have g2 := asO_rep g2 o1 hlf
    obtain ⟨kb2, cap2, cur2, e02, Fs2, rfl, v2, q1, q2, q3, q4, q5, q6, q7, q8⟩ := own_row g3 g4 (hev _ _ hy) hl2 h12
    obtain ⟨cl, r1, r2, r3, r4⟩ := own_cells (by omega) q1 q2 q4 q5 q8 hl2
    have hsm : (len + len2) * 1 ≤ (len + len2) * te.bytes := Nat.mul_le_mul_left _ hb1
    -- both bases alike
    obtain ⟨w', k', cap', cur', e', Fs1, s1, s2, s3, s4, s5, s6, s7, hk', hr1, hF1, hI1, hC1⟩ : ∃ w' k' cap' cur' e', ∃ Fs1 : Nat → Nat → Nat → Prop, (Builtin.append_ #[t, t] o.type #[ρ x, ρ y]).run P w = .ok (.slice (some ⟨k', 0, none⟩) (len + len2) cap') w' ∧ w.grownBy w' l1.b ∧
        w'.heap[k']? = some (.cells cur' e' (0, 0)) ∧ len + len2 ≤ cap' ∧ cap' ≤ 9223372036854775807 ∧ cur'.size = cap' * te.size ∧ (∀ (j : Nat) (u : Value), cl[j]? = some u → cur'[len * te.size + j]? = some u) ∧ (l1.b = some k' ∨ k' = w.heap.size) ∧
        (∀ row ∈ rows, row.length = te.size) ∧ (∀ i j c, Fs1 i j c → g.F hh c ∧ l1.b ≠ some c) ∧ (∀ i j i' j' c, Fs1 i j c → Fs1 i' j' c → i = i' ∧ j = j') ∧
        ∀ (i j : Nat) (row : List Tr) (t : Tr) (c : Value), rows[i]? = some row → row[j]? = some t → cur'[i * te.size + j]? = some c → (lnk ln i j = none → RepO w (Fs1 i j) c t) ∧ ∀ h len, lnk ln i j = some (h, len) → Rep g w c (.sl h len) := by
      obtain ⟨_, _, ⟨rfl, hr0⟩ | ⟨k, cap, cur, e0, Fs, rfl, p1, p2, p3, p4, p5, p6, p7, p8⟩⟩ := g2
      · subst hr0
        have hl0 : len = 0 := by simpa using hl
        subst hl0
        rcases (hev _ _ hx).sl_inv g1 with ⟨_, _, e0, _⟩ | ⟨_, _, ev0⟩
        · cases e0
        obtain ⟨w', k', cap', cur', e', s1, s2, s3, s4, s5, s6, s7, s8⟩ := append_any0 (w := w) (ty := o.type) (c := cap2) hT e1 e2 hs1 r1 h12 r2 r3 (by omega) (by rw [Nat.zero_add] at hB; omega) none
        refine ⟨w', k', cap', cur', e', fun _ _ _ => False, by rw [v2, ev0, Nat.zero_add]; exact s1, s2, s3, by omega, s5, s6, fun j u hj => by rw [Nat.zero_mul, Nat.zero_add]; exact s7 j u hj, .inr s8, by simp, fun _ _ _ h => h.elim, fun _ _ _ _ _ h => h.elim, fun i j row t c h => by simp at h⟩
      · rcases (hev _ _ hx).sl_inv g1 with ⟨_, _, e0, hlc, ev0⟩ | ⟨e0, _⟩
        · cases e0
          obtain ⟨w', k', cap', cur', e', s1, s2, s3, s4, s5, s6, s7, s8, s9⟩ := append_any (w := w) (ty := o.type) (c := cap2) hT e1 e2 hs1 p1 hlc p3 p4 r1 r2 r3 (by omega) (by omega)
          refine ⟨w', k', cap', cur', e', Fs, by rw [v2, ev0]; exact s1, s2, s3, s4, s5, s6, s8, s9.elim (fun q => .inl (by rw [q]; rfl)) .inr, p5, fun i j c hc => ⟨(p6 i j c hc).1, fun q => (p6 i j c hc).2 (by cases q; rfl)⟩, p7, fun i j row t c w1 w2 w3 => ?_⟩
          have hrl := p5 row (List.mem_of_getElem? w1)
          have hil := (List.getElem?_eq_some_iff.1 w1).1
          have hjl := (List.getElem?_eq_some_iff.1 w2).1
          have hlt : i * te.size + j < len * te.size := by
            have : (i + 1) * te.size ≤ len * te.size := Nat.mul_le_mul_right _ (by omega)
            rw [Nat.succ_mul] at this; omega
          exact p8 i j row t c w1 w2 (by rw [← s7 _ hlt]; exact w3)
        · cases e0
    have hn2 : nh ≠ h2 := fun e => by rw [← e, hn] at g3; cases g3
    have hnh : nh ≠ hh := fun e => by rw [← e, hn] at g1; cases g1
    have hm1 := mst_absorb hm g1 g3 hne
    have hG1 := grow_pack (w := w) (h := hh) g3
    have hn1 : (gpack g hh h2) nh = .un := by rw [gpack_ne hn2, hn]
    have gl1 : (gpack g hh h2) hh = .live l1 := by rw [gpack_ne hne, g1]
    have hnew : ∀ c, (Loc.row k' cap').b = some c → l1.b = some c ∨ w.heap.size ≤ c := fun c ec => by
      cases ec
      rcases hk' with hk' | hk'
      · exact .inl hk'
      · exact .inr (by omega)
    have hG2 := grow_append hm1 (l := l1) (l' := .row k' cap') (hd := some hh) hn1 (fun h e => by cases e; exact gl1) s2 (by simp) hnew
    have hup : updM m' [(nh, some (.own te.size te.bytes (rows ++ rows2) (lnShift len ln2 ++ ln))), (hh, none), (h2, none)] = updM (updM m' [(h2, none)]) [(nh, some (.own te.size te.bytes (rows ++ rows2) (lnShift len ln2 ++ ln))), (hh, none)] := by
      funext k
      simp only [updM, lk]
      cases Nat.beq nh k <;> cases Nat.beq hh k <;> rfl
    have hlr : rows.length ≤ len := by omega
    refine ⟨_, w', .inl ⟨_, hrun ρ w w' _ s1, .sl (b := k') (cap := cap') (gapp_new ..) s4⟩, ?_, hG1.trans hG2, fun k k1 k2 => ?_⟩
    · rw [hup]
      refine mst_append (l := l1) (l' := .row k' cap') (hd := some hh) hm1 hn1 (fun h e => by cases e; exact gl1) s2 (by simp) hnew (fun c ec => by cases ec; exact (Array.getElem?_eq_some_iff.1 s3).1) ?_
      have apart : ∀ {c}, Owns g hh c → Owns g h2 c → False := fun {c} a1 a2 => hne (hm.inj hh h2 c a1 a2)
      have hO1 : ∀ {i j c}, Fs1 i j c → Owns g hh c := fun {i j c} hc => ⟨_, g1, .inr (hF1 i j c hc).1⟩
      have hO2 : ∀ {i j c}, Fs2 i j c → Owns g h2 c := fun {i j c} hc => ⟨_, g3, .inr (q6 i j c hc).1⟩
      have hkn : ∀ {c h}, Owns g h c → c = k' → l1.b = some c := fun {c h} ho ec => by
        rcases hk' with hk' | hk'
        · rw [ec]; exact hk'
        · have := hm.lt h c ho; omega
      have hblk : ∀ {c h}, Owns g h c → l1.b ≠ some c → w'.heap[c]? = w.heap[c]? := fun {c h} ho hc => s2.block c (hm.lt h c ho) fun ee => hc ee.symm
      refine ⟨by rw [List.length_append, ← hl, ← hl2]; exact hB, by omega, .inr ⟨k', cap', cur', e', fun i j c => if i < len then Fs1 i j c else Fs2 (i - len) j c, rfl, s3, by rw [List.length_append]; omega, s5, s6, fun row hr => ?_, fun i j c hc => ?_, fun i j i' j' c a1 a2 => ?_, fun i j row t c w1 w2 w3 => ?_⟩⟩
      · rw [List.mem_append] at hr
        rcases hr with hr | hr
        · exact hr1 row hr
        · exact q5 row hr
      · by_cases d1 : i < len <;> simp only [if_pos, if_neg, d1, not_false_eq_true] at hc
        · exact ⟨.inl ⟨rfl, hh, rfl, .inl (hF1 i j c hc).1⟩, fun ec => (hF1 i j c hc).2 (hkn (hO1 hc) ec)⟩
        · refine ⟨.inl ⟨rfl, hh, rfl, .inr ⟨rfl, hO2 hc⟩⟩, fun ec => ?_⟩
          exact apart ⟨_, g1, .inl (hkn (hO2 hc) ec)⟩ (hO2 hc)
      · by_cases d1 : i < len <;> by_cases d2 : i' < len
        · simp only [if_pos d1] at a1; simp only [if_pos d2] at a2; exact hI1 i j i' j' c a1 a2
        · simp only [if_pos d1] at a1; simp only [if_neg d2] at a2; exact (apart (hO1 a1) (hO2 a2)).elim
        · simp only [if_neg d1] at a1; simp only [if_pos d2] at a2; exact (apart (hO1 a2) (hO2 a1)).elim
        · simp only [if_neg d1] at a1; simp only [if_neg d2] at a2
          have := q7 _ _ _ _ c a1 a2
          omega
      · rw [lnk_append]
        by_cases d1 : i < len
        · rw [List.getElem?_append_left (by omega)] at w1
          rw [(lnk_shift len ln2 i j).1 d1]
          simp only [if_pos d1]
          obtain ⟨u1, u2⟩ := hC1 i j row t c w1 w2 w3
          exact ⟨fun hk => (u1 hk).world fun b' hb' => hblk (hO1 hb') (hF1 i j b' hb').2, fun h' len' hk => (u2 h' len' hk).grow (hG1.trans hG2)⟩
        · obtain ⟨i2, rfl⟩ : ∃ i2, i = len + i2 := ⟨i - len, by omega⟩
          rw [List.getElem?_append_right (by omega), ← hl, Nat.add_sub_cancel_left] at w1
          rw [(lnk_shift len ln2 i2 j).2, lnk_lt hlt (len + i2) j (by omega)]
          simp only [if_neg d1, Nat.add_sub_cancel_left]
          have hrl := q5 row (List.mem_of_getElem? w1)
          have hil := (List.getElem?_eq_some_iff.1 w1).1
          have hjl := (List.getElem?_eq_some_iff.1 w2).1
          have hlt2 : i2 * te.size + j < len2 * te.size := by
            have : (i2 + 1) * te.size ≤ len2 * te.size := Nat.mul_le_mul_right _ (by omega)
            rw [Nat.succ_mul] at this; omega
          have hcl : cl[i2 * te.size + j]? = some (cl[i2 * te.size + j]'(by rw [r1]; exact hlt2)) := by simp [r1, hlt2]
          have := s7 _ _ hcl
          rw [← Nat.add_assoc, ← Nat.add_mul, w3] at this
          have hcc : cur2[i2 * te.size + j]? = some c := by rw [← r4 _ hlt2, hcl, this]
          obtain ⟨u1, u2⟩ := q8 i2 j row t c w1 w2 hcc
          refine ⟨fun hk => ?_, fun h' len' hk => ?_⟩
          · refine (u1 ?_).world fun b' hb' => hblk (hO2 hb') fun ee => apart ⟨_, g1, .inl ee⟩ (hO2 hb')
            cases hz : lnk ln2 i2 j with
            | none => rfl
            | some p => rw [hz] at hk; cases hk
          · refine (u2 h' len' ?_).grow (hG1.trans hG2)
            cases hz : lnk ln2 i2 j with
            | none => rw [hz] at hk; cases hk
            | some p => rw [hz] at hk; exact hk
    · have : hh ≠ k := fun e => by rw [e] at g1; rw [k2] at g1; cases g1
      have h2k : h2 ≠ k := fun e => by rw [e] at g3; rw [k2] at g3; cases g3
      rw [gapp_un k1 (by simp [this]), gpack_ne (fun e => h2k e.symm), k2]
  · exact h.elim
theorem srcRows_rd {n : Nat} {m : Mem} {y : AV} {news : List (List Tr)} {rd : List (Nat × Blk)} (e3 : srcRows n m y = some (news, rd)) : ∀ p ∈ rd, m p.1 = some p.2 := by
  unfold srcRows at e3
  split at e3
  · cases e3; simp
  · rename_i n' B rows
    cases hbb : Nat.beq n n' with
    | true => rw [hbb] at e3; cases e3; simp
    | false => rw [hbb] at e3; cases e3
  · rename_i hd len
    split at e3
    · rename_i e' n' B rows em
      cases hbb : (Nat.beq n n' && Nat.ble len rows.length) with
      | true => rw [hbb] at e3; cases e3; simpa using em
      | false => rw [hbb] at e3; cases e3
    · cases e3
  · cases e3
theorem lst_new {g : Gh} {w w' : World} {m : Mem} (hm : MSt g w m) (hw : w.grownBy w' none) {k e n B len cap : Nat} {rows : List (List Tr)} {cur : Array Value} (hk : w.heap.size ≤ k) (hb : w'.heap[k]? = some (.cells cur e (0, 0))) (hcap : rows.length ≤ cap) (h63 : cap ≤ 9223372036854775807) (hB : rows.length * B ≤ 150000000000000) (hl : len = rows.length)
    (hr : ∀ row ∈ rows, row.length = n) (hc : ∀ (i : Nat) (row : List Tr) (j : Nat) (t : Tr), rows[i]? = some row → row[j]? = some t → ∃ c, cur[i * n + j]? = some c ∧ RepT (okB g w) w c t) :
    Grow g w g w' ∧ MSt g w' m ∧ RepT (okB g w') w' (.slice (some ⟨k, 0, none⟩) len cap) (.lst n B rows) := by
  have hG : Grow g w g w' := ⟨hw.os, hw.tape, hw.output, hw.size, fun b hb => hw.block b hb.1 (by simp), fun b hb => hw.block b (hm.xlt b hb) (by simp), rfl, fun _ h => h, fun _ _ h => .inl h, fun h b e => .inl ⟨h, e⟩⟩
  have hkl : k < w'.heap.size := (Array.getElem?_eq_some_iff.1 hb).1
  have hok : okB g w' k := ⟨hkl, fun hx => by have := hm.xlt k hx; omega, fun h ho => by have := hm.lt h k ho; omega⟩
  refine ⟨hG, ⟨fun h b e => ?_, hm.inj, fun h b e => Nat.lt_of_lt_of_le (hm.lt h b e) hw.size, fun b e => Nat.lt_of_lt_of_le (hm.xlt b e) hw.size, hm.xl, hm.gl.grow hG⟩, ?_⟩
  · obtain ⟨l, e1, e2⟩ := hm.blk h b e
    exact ⟨l, e1, e2.grow hG fun k hk => hw.block k (hm.lt h k ⟨l, e1, hk⟩) (by simp)⟩
  · refine .lst (fun i j => (cur[i * n + j]?).getD default) hl (by omega) h63 (by rw [hl]; exact hB) (fun e => by cases e) (fun i row hi => ⟨hr row (List.mem_of_getElem? hi), k, 0, rfl, hok, fun j hj => ?_⟩) fun i row j t hi hj => ?_
    · have hrl := hr row (List.mem_of_getElem? hi)
      obtain ⟨c, c1, _⟩ := hc i row j row[j] hi (by simp [hrl, hj])
      rw [heap_cell hb, Nat.zero_add, c1]; rfl
    · obtain ⟨c, c1, c2⟩ := hc i row j t hi hj
      show RepT _ _ ((cur[i * n + j]?).getD default) t
      rw [c1]
      exact c2.grow hG
/-- a cell of rows that lie in a row -/
theorem flat_get {n : Nat} (hn : 0 < n) : ∀ {rows : List (List Tr)}, (∀ r ∈ rows, r.length = n) → ∀ {i : Nat} {t : Tr}, rows.flatten[i]? = some t → ∃ i1 j1 row, rows[i1]? = some row ∧ row[j1]? = some t ∧ i = i1 * n + j1
  | [], _, i, t, h => by simp at h
  | r :: rows, hr, i, t, h => by
    have h0 := hr r (by simp)
    rw [List.flatten_cons] at h
    by_cases hi : i < n
    · rw [List.getElem?_append_left (by omega)] at h
      exact ⟨0, i, r, rfl, h, by omega⟩
    · rw [List.getElem?_append_right (by omega), h0] at h
      obtain ⟨i1, j1, row, h1, h2, h3⟩ := flat_get hn (fun r h' => hr r (by simp [h'])) h
      exact ⟨i1 + 1, j1, row, by simpa using h1, h2, by rw [Nat.succ_mul]; omega⟩
/-- an append behind a slice without room, that makes a row of one's own -/
theorem l_appendFB (hT : TOk P T) {t : Nat} {x y : Operand} {ay : AV} {rows news : List (List Tr)} {rd : List (Nat × Blk)} {e a0 b0 : Nat} {z0 : List Z} {q0 : Bool} {te : TyI} (ho : o.op = .call { callee := .builtin .append, args := #[x, y], argTypes := #[t, t] }) (hx : ev x = some (.ful te.size te.bytes rows)) (hy : ev y = some ay)
    (e1 : lk T t = some ⟨.slice e, a0, b0, z0, q0⟩) (e2 : lk T e = some te) (e3 : srcRows te.size m ay = some (news, rd)) (hs1 : 1 ≤ te.size) (hb1 : 1 ≤ te.bytes) (hr1 : 1 ≤ rows.length) (hn1 : 1 ≤ news.length) (hB : (rows.length + news.length) * te.bytes ≤ 140737488351232)
    (hK : K (.sl nh (rows.length + news.length)) rd [(nh, some (.vec e te.size te.bytes (rows ++ news)))]) : LOk P o m nh ev K := by
  have hrun : ∀ (ρ : Operand → Value) (w w' : World) (v : Value), (Builtin.append_ #[t, t] o.type #[ρ x, ρ y]).run P w = .ok v w' → (execOp ρ o).run P w = .ok (.value v) w' := fun ρ w w' v e => by
    simp [execOp, ho, resolve, invoke, builtin, e]
  have rdm : ∀ p ∈ rd, m p.1 = some p.2 := srcRows_rd e3
  refine ⟨_, _, _, hK, rdm, by simp, fun g w m' ρ hm hn hrd hev => ?_⟩
  obtain ⟨hr, ao, c, cl, q1, q2, q3, q4⟩ := srcRows_ok hm (by omega) e3 (fun p hp => hrd p hp) (hev _ _ hy)
  have hxv := hev _ _ hx
  generalize hvx : ρ x = vx at hxv
  obtain ⟨ht, ao0, l0, rfl⟩ : RepT (okB g w) w vx (.lst te.size te.bytes rows) ∧ ∃ ao l, vx = .slice ao l l := by
    cases hxv with
    | ful h1 h2 => exact ⟨h1, h2⟩
  obtain ⟨ao1, cap1, f, hv1, p1, p2, p3, p4, p5, p6⟩ := lst_inv ht
  cases hv1
  have h63 : rows.length + news.length ≤ 9223372036854775807 := by
    have : (rows.length + news.length) * 1 ≤ (rows.length + news.length) * te.bytes := Nat.mul_le_mul_left _ hb1
    omega
  obtain ⟨b2, o2, rfl⟩ : ∃ b o, ao = some ⟨b, o, none⟩ := by
    have hpos : 0 < cl.length := by rw [q2]; exact Nat.mul_pos (by omega) (by omega)
    obtain ⟨b, o, e, _⟩ := q3 0 cl[0] (by simp)
    exact ⟨b, o, e⟩
  have hcl : ∀ (j : Nat) (u : Value), cl[j]? = some u → w.cell? ⟨b2, o2 + j, none⟩ = some u := fun j u hj => by
    obtain ⟨b, o, e, e'⟩ := q3 j u hj
    cases e; exact e'
  obtain ⟨olds, w1, w2, w3⟩ : ∃ olds : List Value, olds.length = rows.length * te.size ∧ (∀ (j : Nat) (u : Value), olds[j]? = some u → ∃ b o, ao0 = some ⟨b, o, none⟩ ∧ w.cell? ⟨b, o + j, none⟩ = some u) ∧
      ∀ (i : Nat) (row : List Tr) (j : Nat) (t : Tr), rows[i]? = some row → row[j]? = some t → ∃ c, olds[i * te.size + j]? = some c ∧ RepT (okB g w) w c t := by
    refine ⟨(List.range (rows.length * te.size)).map fun k => f (k / te.size) (k % te.size), by simp, fun j u hj => ?_, fun i row j t hi hj => ?_⟩
    · simp only [List.getElem?_map, Option.map_eq_some_iff] at hj
      obtain ⟨k, hk, rfl⟩ := hj
      have hlt : j < rows.length * te.size := by have := (List.getElem?_eq_some_iff.1 hk).1; simpa using this
      rw [List.getElem?_range hlt] at hk; cases hk
      have hd : j / te.size < rows.length := Nat.div_lt_of_lt_mul (by rw [Nat.mul_comm]; exact hlt)
      obtain ⟨_, b, o, e, _, hc⟩ := p5 (j / te.size) rows[j / te.size] (by simp [hd])
      refine ⟨b, o, e, ?_⟩
      rw [← hc (j % te.size) (Nat.mod_lt _ (by omega))]
      congr 2
      have := Nat.div_add_mod j te.size
      rw [Nat.mul_comm] at this; omega
    · have hrl := (p5 i row hi).1
      have hil := (List.getElem?_eq_some_iff.1 hi).1
      have hjl := (List.getElem?_eq_some_iff.1 hj).1
      have hlt : i * te.size + j < rows.length * te.size := by
        have : (i + 1) * te.size ≤ rows.length * te.size := Nat.mul_le_mul_right _ (by omega)
        rw [Nat.succ_mul] at this; omega
      refine ⟨f ((i * te.size + j) / te.size) ((i * te.size + j) % te.size), by simp [List.getElem?_range hlt], ?_⟩
      have e1 : (i * te.size + j) / te.size = i := by rw [Nat.mul_comm, Nat.mul_add_div (by omega), Nat.div_eq_of_lt (by omega), Nat.add_zero]
      have e2 : (i * te.size + j) % te.size = j := by rw [Nat.mul_comm, Nat.mul_add_mod, Nat.mod_eq_of_lt (by omega)]
      rw [e1, e2]
      exact p6 i row j t hi hj
  have hrows : ∀ row ∈ rows ++ news, row.length = te.size := fun row hrow => by
    rw [List.mem_append] at hrow
    rcases hrow with hrow | hrow
    · obtain ⟨i, hi⟩ := List.mem_iff_getElem?.1 hrow
      exact (p5 i row hi).1
    · exact hr row hrow
  have hao : ∃ ad, ao0 = some ad := by
    cases ao0 with
    | none => have := p4 rfl; omega
    | some ad => exact ⟨ad, rfl⟩
  obtain ⟨ad, rfl⟩ := hao
  obtain ⟨ti, u, zt, _, u2, u3, _⟩ := hT.info e1
  obtain rfl := D_slice u3
  obtain ⟨ti', u', z', i1, _, _, i4, i5, i6, i7, i8⟩ := hT.info e2
  have hzs : z'.cells.size = te.size := by rw [(zcells_cells i7).1]; simpa using i8
  obtain ⟨v', w', s1, s2, s3⟩ := run_append_arg_grows (P := P) w t o.type e ti' z' te.size te.bytes u2 i1 i6 i4 i5 hzs (by omega) ad rows.length rows.length olds w1 (fun j u hj => by
    obtain ⟨b, of, e, e'⟩ := w2 j u hj
    cases e
    rw [add_mk]; exact e') ⟨b2, o2, none⟩ news.length c cl q2 (fun j u hj => by rw [add_mk]; exact hcl j u hj) (by omega) (by simpa [maxLen] using h63) (by omega)
  obtain ⟨_, ⟨rfl, rn⟩ | ⟨k, cap, cur, rfl, kge, k1, k2, k3, k4, k5⟩⟩ := s2
  · omega
  have hG := grow_append hm (l := .nil) (l' := .row k cap) (hd := none) hn (by simp) s3 (by simp [Loc.b]) (fun b eb => .inr (by cases eb; omega))
  have e1' := hrun ρ w w' _ (show (Builtin.append_ #[t, t] o.type #[ρ x, ρ y]).run P w = _ by rw [hvx, q1]; exact s1)
  refine ⟨_, w', .inl ⟨_, e1', .sl (b := k) (cap := cap) (gapp_new ..) k2⟩, mst_append (l := .nil) (l' := .row k cap) (hd := none) hm hn (by simp) s3 (by simp [Loc.b]) (fun b eb => .inr (by cases eb; omega)) (fun b eb => by cases eb; exact (Array.getElem?_eq_some_iff.1 k1).1)
    ⟨by rw [List.length_append]; exact (Nat.le_trans hB (by decide)), by omega, .inr ⟨k, cap, cur, rfl, k1, by rw [List.length_append]; exact k2, by simpa [maxLen] using k3, k4, hrows, fun i t hi => ?_⟩⟩, hG, fun h h1 h2 => by rw [gapp_un h1 (by simp), h2]⟩
  have hfl : rows.flatten.length = rows.length * te.size := len_flat _ (fun r h' => hrows r (by simp [h']))
  rw [List.flatten_append] at hi
  have : ∃ u, (olds ++ cl)[i]? = some u ∧ RepT (okB g w) w u t := by
    by_cases c1 : i < rows.length * te.size
    · rw [List.getElem?_append_left (by omega)] at hi
      rw [List.getElem?_append_left (by omega)]
      obtain ⟨i1, j1, row, h1, h2, h3⟩ := flat_get (by omega) (fun r h' => hrows r (by simp [h'])) hi
      rw [h3]
      exact w3 i1 row j1 t h1 h2
    · rw [List.getElem?_append_right (by omega), hfl] at hi
      rw [List.getElem?_append_right (by omega), w1]
      exact q4 _ t hi
  obtain ⟨u, c1, c2⟩ := this
  refine ⟨u, ?_, c2.grow hG⟩
  rw [← k5, List.getElem?_take] at c1
  split at c1
  · simpa using c1
  · cases c1
theorem l_appendF (hT : TOk P T) {t : Nat} {x y : Operand} {ax ay : AV} (ho : o.op = .call { callee := .builtin .append, args := #[x, y], argTypes := #[t, t] }) (hx : ev x = some ax) (hy : ev y = some ay) (h : aappendF T m nh t ax ay K) : LOk P o m nh ev K := by
  have hrun : ∀ (ρ : Operand → Value) (w w' : World) (v : Value), (Builtin.append_ #[t, t] o.type #[ρ x, ρ y]).run P w = .ok v w' → (execOp ρ o).run P w = .ok (.value v) w' := fun ρ w w' v e => by
    simp [execOp, ho, resolve, invoke, builtin, e]
  unfold aappendF at h
  split at h
  case h_2 => exact l_appendO hT ho hx hy h
  rename_i n B rows
  split at h
  case h_2 => exact h.elim
  rename_i e a0 b0 z0 q0 e1
  split at h
  case h_2 => exact h.elim
  rename_i te e2
  split at h
  case h_2 => exact h.elim
  rename_i news rd e3
  cases hcond : (Nat.ble 1 te.size && Nat.ble 1 te.bytes) with
  | false => rw [hcond] at e3; cases e3
  | true =>
  rw [hcond, cond_true] at e3
  simp only [Bool.and_eq_true] at hcond
  have hs1 := Nat.le_of_ble_eq_true hcond.1
  have hb1 := Nat.le_of_ble_eq_true hcond.2
  obtain ⟨rfl, rfl, hB, hK⟩ := h
  cases hbyte : (byteT te && Nat.ble 1 rows.length && Nat.ble 1 news.length) with
  | true =>
    rw [hbyte, cond_true] at hK
    simp only [Bool.and_eq_true] at hbyte
    exact l_appendFB hT ho hx hy e1 e2 e3 hs1 hb1 (Nat.le_of_ble_eq_true hbyte.1.2) (Nat.le_of_ble_eq_true hbyte.2) hB hK
  | false =>
  rw [hbyte, cond_false] at hK
  have rdm : ∀ p ∈ rd, m p.1 = some p.2 := srcRows_rd e3
  refine ⟨_, _, _, hK, rdm, fun p hp => by simp at hp, fun g w m' ρ hm hn hrd hev => ?_⟩
  obtain ⟨hr, ao, c, cl, q1, q2, q3, q4⟩ := srcRows_ok hm (by omega) e3 (fun p hp => hrd p hp) (hev _ _ hy)
  have hxv := hev _ _ hx
  generalize hvx : ρ x = vx at hxv
  obtain ⟨ht, ao0, l0, rfl⟩ : RepT (okB g w) w vx (.lst te.size te.bytes rows) ∧ ∃ ao l, vx = .slice ao l l := by
    cases hxv with
    | ful h1 h2 => exact ⟨h1, h2⟩
  obtain ⟨ao1, cap1, f, hv1, p1, p2, p3, p4, p5, p6⟩ := lst_inv ht
  cases hv1
  have h63 : rows.length + news.length ≤ 9223372036854775807 := by
    have : (rows.length + news.length) * 1 ≤ (rows.length + news.length) * te.bytes := Nat.mul_le_mul_left _ hb1
    omega
  have hone : ∀ u ∈ cl, u.oneCell' = true := fun u hu => by
    obtain ⟨j, hj⟩ := List.mem_iff_getElem?.1 hu
    have hjl := (List.getElem?_eq_some_iff.1 hj).1
    have hfl : j < news.flatten.length := by rw [len_flat _ hr, ← q2]; exact hjl
    obtain ⟨u', c1, c2⟩ := q4 j news.flatten[j] (by simp [hfl])
    rw [hj] at c1; cases c1
    exact c2.one
  have hup : updM m' [] = m' := rfl
  by_cases hm0 : news.length = 0
  · have hnil : news = [] := List.eq_nil_of_length_eq_zero hm0
    subst hnil
    refine ⟨g, w, .inl ⟨.slice ao0 rows.length rows.length, hrun ρ w w _ ?_, ?_⟩, hm, Grow.refl _ _, fun _ _ h => h⟩
    · obtain ⟨ti, u, zt, _, u2, u3, _⟩ := hT.info e1
      obtain rfl := D_slice u3
      obtain ⟨ti', u', z', i1, _, _, i4, i5, i6, i7, i8⟩ := hT.info e2
      have : cl = [] := List.eq_nil_of_length_eq_zero (by simpa using q2)
      subst this
      rw [hvx, q1]
      cases ao <;> cases ao0 <;> simp [Builtin.append_, run_underlying u2, sizeOf, typeInfo, i1, Builtin.lenOf, Builtin.firstCells, loadCells, loadCellsFrom, storeCells]
    · rw [List.append_nil]; exact .tr ht
  · obtain ⟨b2, o2, rfl⟩ : ∃ b o, ao = some ⟨b, o, none⟩ := by
      have hpos : 0 < cl.length := by rw [q2]; exact Nat.mul_pos (by omega) (by omega)
      obtain ⟨b, o, e, _⟩ := q3 0 cl[0] (by simp)
      exact ⟨b, o, e⟩
    have hcl : ∀ (j : Nat) (u : Value), cl[j]? = some u → w.cell? ⟨b2, o2 + j, none⟩ = some u := fun j u hj => by
      obtain ⟨b, o, e, e'⟩ := q3 j u hj
      cases e; exact e'
    -- the old cells
    obtain ⟨olds, w1, w2, w3⟩ : ∃ olds : List Value, olds.length = rows.length * te.size ∧ (∀ (j : Nat) (u : Value), olds[j]? = some u → ∃ b o, ao0 = some ⟨b, o, none⟩ ∧ w.cell? ⟨b, o + j, none⟩ = some u) ∧
        ∀ (i : Nat) (row : List Tr) (j : Nat) (t : Tr), rows[i]? = some row → row[j]? = some t → ∃ c, olds[i * te.size + j]? = some c ∧ RepT (okB g w) w c t := by
      refine ⟨(List.range (rows.length * te.size)).map fun k => f (k / te.size) (k % te.size), by simp, fun j u hj => ?_, fun i row j t hi hj => ?_⟩
      · simp only [List.getElem?_map, Option.map_eq_some_iff] at hj
        obtain ⟨k, hk, rfl⟩ := hj
        have hlt : j < rows.length * te.size := by have := (List.getElem?_eq_some_iff.1 hk).1; simpa using this
        rw [List.getElem?_range hlt] at hk; cases hk
        have hd : j / te.size < rows.length := Nat.div_lt_of_lt_mul (by rw [Nat.mul_comm]; exact hlt)
        obtain ⟨_, b, o, e, _, hc⟩ := p5 (j / te.size) rows[j / te.size] (by simp [hd])
        refine ⟨b, o, e, ?_⟩
        rw [← hc (j % te.size) (Nat.mod_lt _ (by omega))]
        congr 2
        have := Nat.div_add_mod j te.size
        rw [Nat.mul_comm] at this; omega
      · have hrl := (p5 i row hi).1
        have hil := (List.getElem?_eq_some_iff.1 hi).1
        have hjl := (List.getElem?_eq_some_iff.1 hj).1
        have hlt : i * te.size + j < rows.length * te.size := by
          have : (i + 1) * te.size ≤ rows.length * te.size := Nat.mul_le_mul_right _ (by omega)
          rw [Nat.succ_mul] at this; omega
        refine ⟨f ((i * te.size + j) / te.size) ((i * te.size + j) % te.size), by simp [List.getElem?_range hlt], ?_⟩
        have e1 : (i * te.size + j) / te.size = i := by rw [Nat.mul_comm, Nat.mul_add_div (by omega), Nat.div_eq_of_lt (by omega), Nat.add_zero]
        have e2 : (i * te.size + j) % te.size = j := by rw [Nat.mul_comm, Nat.mul_add_mod, Nat.mod_eq_of_lt (by omega)]
        rw [e1, e2]
        exact p6 i row j t hi hj
    have hnewc : ∀ (i : Nat) (row : List Tr) (j : Nat) (t : Tr), news[i]? = some row → row[j]? = some t → ∃ c, cl[i * te.size + j]? = some c ∧ RepT (okB g w) w c t := fun i row j t hi hj => by
      have : ∀ (i : Nat) (t : Tr), news.flatten[i]? = some t → ∃ c, cl.toArray[i]? = some c ∧ RepT (okB g w) w c t := fun i t hi => by
        obtain ⟨c, c1, c2⟩ := q4 i t hi
        exact ⟨c, by simpa using c1, c2⟩
      obtain ⟨c, c1, c2⟩ := vec_row hr this hi hj
      exact ⟨c, by simpa using c1, c2⟩
    obtain ⟨w', k', cap', cur', e', r1, r2, r3, r4, r5, r6, r7⟩ : ∃ w' k' cap' cur' e', (Builtin.append_ #[t, t] o.type #[.slice ao0 rows.length rows.length, .slice (some ⟨b2, o2, none⟩) news.length c]).run P w = .ok (.slice (some ⟨k', 0, none⟩) (rows.length + news.length) cap') w' ∧ w.grownBy w' none ∧
        w'.heap[k']? = some (.cells cur' e' (0, 0)) ∧ rows.length + news.length ≤ cap' ∧ cap' ≤ 9223372036854775807 ∧ (∀ (j : Nat) (u : Value), (olds ++ cl)[j]? = some u → cur'[j]? = some u) ∧ w.heap.size ≤ k' := by
      cases ao0 with
      | none =>
        have h0 := p4 rfl
        obtain ⟨w', k', cap', cur', e', s1, s2, s3, s4, s5, s6, s7, s8⟩ := append_any0 (w := w) (ty := o.type) (c := c) hT e1 e2 hs1 q2 (by omega) hcl hone (by omega) (by rw [h0, Nat.zero_add] at hB; omega) none
        have ho0 : olds = [] := List.eq_nil_of_length_eq_zero (by rw [w1, h0, Nat.zero_mul])
        refine ⟨w', k', cap', cur', e', ?_, s2, s3, by omega, s5, by rw [ho0]; exact s7, Nat.le_of_eq s8.symm⟩
        rw [h0, Nat.zero_add]; exact s1
      | some ad =>
        obtain ⟨ti, u, zt, _, u2, u3, _⟩ := hT.info e1
        obtain rfl := D_slice u3
        obtain ⟨ti', u', z', i1, _, _, i4, i5, i6, i7, i8⟩ := hT.info e2
        have hzs : z'.cells.size = te.size := by rw [(zcells_cells i7).1]; simpa using i8
        obtain ⟨v', w', s1, s2, s3⟩ := run_append_arg_grows (P := P) w t o.type e ti' z' te.size te.bytes u2 i1 i6 i4 i5 hzs (by omega) ad rows.length rows.length olds w1 (fun j u hj => by
          obtain ⟨b, of, e, e'⟩ := w2 j u hj
          cases e
          rw [add_mk]; exact e') ⟨b2, o2, none⟩ news.length c cl q2 (fun j u hj => by rw [add_mk]; exact hcl j u hj) (by omega) (by simpa [maxLen] using h63) (by omega)
        obtain ⟨_, ⟨rfl, rn⟩ | ⟨k, cap, cur, rfl, kge, k1, k2, k3, k4, k5⟩⟩ := s2
        · omega
        · refine ⟨w', k, cap, cur, e, s1, s3, k1, k2, by simpa [maxLen] using k3, fun j u hj => ?_, kge⟩
          rw [← k5, List.getElem?_take] at hj
          split at hj
          · simpa using hj
          · cases hj
    obtain ⟨h1, h2, h3⟩ := lst_new (B := te.bytes) (rows := rows ++ news) (n := te.size) (len := rows.length + news.length) hm r2 r7 r3 (by rw [List.length_append]; exact r4) r5 (by rw [List.length_append]; exact (Nat.le_trans hB (by decide))) (by rw [List.length_append]) (fun row hrow => by
      rw [List.mem_append] at hrow
      rcases hrow with hrow | hrow
      · obtain ⟨i, hi⟩ := List.mem_iff_getElem?.1 hrow
        exact (p5 i row hi).1
      · exact hr row hrow) fun i row j t hi hj => by
        by_cases hd : i < rows.length
        · rw [List.getElem?_append_left hd] at hi
          obtain ⟨c, c1, c2⟩ := w3 i row j t hi hj
          exact ⟨c, r6 _ _ (by rw [List.getElem?_append_left (List.getElem?_eq_some_iff.1 c1).1]; exact c1), c2⟩
        · obtain ⟨i2, rfl⟩ : ∃ i2, i = rows.length + i2 := ⟨i - rows.length, by omega⟩
          rw [List.getElem?_append_right (by omega), Nat.add_sub_cancel_left] at hi
          obtain ⟨c, c1, c2⟩ := hnewc i2 row j t hi hj
          refine ⟨c, r6 _ _ ?_, c2⟩
          rw [Nat.add_mul, Nat.add_assoc, List.getElem?_append_right (by omega), w1, Nat.add_sub_cancel_left]
          exact c1
    exact ⟨g, w', .inl ⟨_, hrun ρ w w' _ (by rw [hvx, q1]; exact r1), .tr h3⟩, h2, h1, fun _ _ h => h⟩
end
end Go.Proofs.YtioafhkkkmfkdaaGreatDoor.am

namespace Go.Proofs.YtioafhkkkmfkdaaGreatDoor.am
open Go
set_option linter.unusedSimpArgs false
section
variable {P : Program} {T : Ty} {o : Oper} {m : Mem} {nh : Nat} {ev : Operand → Option AV} {K : KK}
theorem zbyte {x : Value} (hx : zcells x (.int .u8) = some [.i .u8]) : x = .int .u8 0 := by
  have key : ∀ y : Value, (Z.of y).map (fun q => [q]) = some [Z.i .u8] → y = .int .u8 0 := fun y h => by
    cases hz : Z.of y with
    | none => rw [hz] at h; cases h
    | some z =>
      rw [hz] at h
      simp only [Option.map_some, Option.some.injEq, List.cons.injEq, and_true] at h
      subst h
      rw [Z.of_val hz]; rfl
  cases x with
  | agg cs => cases hx
  | _ => exact key _ hx
theorem append_own_str (hT : TOk P T) {w : World} {t u e ty : Nat} {te tu : TyI} {a b : Nat} {z : List Z} {q : Bool} (ht : lk T t = some ⟨.slice e, a, b, z, q⟩) (hu : lk T u = some tu) (hud : tu.d = .string) (he : lk T e = some te) (hd : te.d = .int .u8) (hsz : te.size = 1) (hby : te.bytes = 1) (hz0 : te.zero = [.i .u8])
    {v : Value} {n : Nat} {xs : List Value} (hown : w.ownsRow 0 e 1 v n xs) (s : ByteArray) (h63 : n + s.size ≤ 140737488351232) :
    ∃ v' w', (Builtin.append_ #[t, u] ty #[v, .string s]).run P w = .ok v' w' ∧ w'.ownsRow 0 e 1 v' (n + s.size) (xs ++ Lib.strCells s) ∧ w.grownBy w' v.ownBlock ∧ (v'.ownBlock = v.ownBlock ∨ v'.ownBlock = some w.heap.size) := by
  obtain ⟨ti, ud, zt, _, u2, u3, _⟩ := hT.info ht
  obtain rfl := D_slice u3
  obtain ⟨ti2, ud2, zt2, _, v2, v3, _⟩ := hT.info hu
  rw [hud] at v3
  obtain rfl := D_string v3
  obtain ⟨ti', u', z', i1, i2, i3, i4, i5, i6, i7, i8⟩ := hT.info he
  have hz : ti'.zero = some (.int .u8 0) := by
    rw [i6]
    rw [hd, hz0] at i7
    rw [zbyte i7]
  have hs1 : ti'.size = 1 := i4.trans hsz
  have hb1 : ti'.bytes = 1 := i5.trans hby
  obtain ⟨v', w', r1, r2, r3, _⟩ := Lib.run_append_own_string (P := P) w 0 t u ty e ti' u2 v2 i1 hz hs1 hb1 v n xs hown s (by simp only [maxLen]; omega) (by omega) (Nat.zero_le _)
  refine ⟨v', w', r1, r2, r3, ?_⟩
  rcases hown.2 with ⟨rfl, rfl⟩ | ⟨g, cap, cur, rfl, hbg, hg, hnc, hcm, hcs, htake⟩
  · by_cases hm : s.size = 0
    · have := r2.2
      rcases this with ⟨rfl, _⟩ | ⟨g', cap', cur', rfl, _, h1, _⟩
      · exact .inl rfl
      · have hl := r3.size
        have hf := Lib.run_firstCells_string (P := P) w 1 s
        rw [hm] at hf
        rw [show (Builtin.append_ #[t, u] ty #[.slice none 0 0, .string s]).run P w = .ok (.slice none 0 0) w by
          simp [Builtin.append_, run_underlying u2, run_underlying v2, sizeOf, typeInfo, i1, hs1, Builtin.lenOf, hm, hf]] at r1
        cases r1
    · rw [run_append_nil_string (P := P) w t u ty e ti' (.int .u8 0) u2 v2 i1 hz s (by omega) (by omega) (by rw [hb1]; omega)] at r1
      cases r1
      exact .inr rfl
  · by_cases hroom : n + s.size ≤ cap
    · rw [Lib.run_append_room_string (P := P) w t u ty e ti' u2 v2 i1 hs1 g n cap cur hg s hroom (by omega)] at r1
      cases r1
      exact .inl rfl
    · have holds : ∀ j u, xs[j]? = some u → w.cell? ((⟨g, 0, none⟩ : Addr).add j) = some u := hown.cells (g := g) rfl
      rw [Lib.run_append_grow_string (P := P) w t u ty e ti' (.int .u8 0) u2 v2 i1 hz ⟨g, 0, none⟩ n cap xs (by rw [hs1]; simpa using hown.1) holds s (by omega) (by omega) (by rw [hb1]; exact growslice_fits (by omega) (by omega))] at r1
      cases r1
      exact .inr rfl
/-- what an append onto nil leaves -/
theorem app_nil {g : Gh} {w : World} {m' : Mem} (hm : MSt g w m') (hn : g nh = .un) {e n B : Nat} {news : List (List Tr)} (hn1 : 1 ≤ n) (hB : news.length * B ≤ 150000000000000) (hr : ∀ r ∈ news, r.length = n) {cl : List Value}
    (q4 : ∀ (j : Nat) (t : Tr), news.flatten[j]? = some t → ∃ u, cl[j]? = some u ∧ RepT (okB g w) w u t) {run : Sem Next} {v' : Value} {w' : World} (r1 : run.run P w = .ok (.value v') w') (r2 : w'.ownsRow 0 e n v' news.length cl) (r3 : w.grownBy w' none) (r4 : v'.ownBlock = none ∨ v'.ownBlock = some w.heap.size) :
    LRes P run g w m' nh [(nh, some (.vec e n B news))] (.sl nh news.length) := by
  obtain ⟨_, ⟨rfl, rn⟩ | ⟨k, cap, cur, rfl, _, k1, k2, k3, k4, k5⟩⟩ := r2
  · have hnil : news = [] := List.eq_nil_of_length_eq_zero rn
    subst hnil
    exact ⟨_, w', .inl ⟨_, r1, .slN (gapp_new ..)⟩, mst_append (l := .nil) (l' := .nil) (hd := none) hm hn (by simp) r3 (by simp [Loc.b]) (by simp [Loc.b]) (by simp [Loc.b]) ⟨by simp, by omega, .inl ⟨rfl, rfl⟩⟩, grow_append hm (l := .nil) (l' := .nil) (hd := none) hn (by simp) r3 (by simp [Loc.b]) (by simp [Loc.b]), fun h h1 h2 => by rw [gapp_un h1 (by simp), h2]⟩
  · have hnew : k = w.heap.size := by
      rcases r4 with r4 | r4 <;> simp [Value.ownBlock] at r4
      exact r4
    have hG := grow_append hm (l := .nil) (l' := .row k cap) (hd := none) hn (by simp) r3 (by simp [Loc.b]) (fun b eb => .inr (by cases eb; omega))
    refine ⟨_, w', .inl ⟨_, r1, .sl (b := k) (cap := cap) (gapp_new ..) k2⟩, mst_append (l := .nil) (l' := .row k cap) (hd := none) hm hn (by simp) r3 (by simp [Loc.b]) (fun b eb => .inr (by cases eb; omega)) (fun b eb => by cases eb; exact (Array.getElem?_eq_some_iff.1 k1).1)
      ⟨hB, by omega, .inr ⟨k, cap, cur, rfl, k1, k2, by simpa [maxLen] using k3, k4, hr, fun i t hi => ?_⟩⟩, hG, fun h h1 h2 => by rw [gapp_un h1 (by simp), h2]⟩
    obtain ⟨u, c1, c2⟩ := q4 i t hi
    refine ⟨u, ?_, c2.grow hG⟩
    rw [← k5, List.getElem?_take] at c1
    split at c1
    · simpa using c1
    · cases c1
/-- an own row of bytes -/
theorem brow_own {g : Gh} {w : World} {m' : Mem} (hm : MSt g w m') {x : Value} {hd len e n B : Nat} {rows : List (List Tr)} (hrd : m' hd = some (.vec e n B rows)) (hx : Rep g w x (.sl hd len)) (hle : len ≤ rows.length) :
    ∃ l xs, g hd = .live l ∧ w.ownsRow 0 e n x len xs ∧ x.ownBlock = l.b ∧ (∀ r ∈ rows, r.length = n) ∧ ∀ (j : Nat) (t : Tr), (rows.take len).flatten[j]? = some t → ∃ u, xs[j]? = some u ∧ RepT (okB g w) w u t := by
  obtain ⟨l, g1, g2⟩ := hm.blk hd _ hrd
  obtain ⟨_, _, ⟨rfl, rfl⟩ | ⟨k, cap, cur, rfl, k1, k2, k3, k4, k5, k6⟩⟩ := g2
  · rcases hx.sl_inv g1 with ⟨b, cap, e0, _, _⟩ | ⟨_, rfl, e5⟩
    · cases e0
    · rw [e5]; exact ⟨_, [], g1, World.ownsRow_nil _ _ _ _, rfl, by simp, by simp⟩
  · rcases hx.sl_inv g1 with ⟨b, cap', e0, e4, e5⟩ | ⟨e0, _⟩
    · cases e0
      rw [e5]
      have hcs : len * n ≤ cur.size := by rw [k4]; exact Nat.mul_le_mul_right _ (by omega)
      refine ⟨_, cur.toList.take (len * n), g1, ⟨by simp; omega, .inr ⟨k, cap, cur, rfl, Nat.zero_le _, k1, e4, by simpa [maxLen] using k3, k4, rfl⟩⟩, rfl, k5, fun j t hj => ?_⟩
      have hlt : (rows.take len).length = len := by rw [List.length_take]; omega
      have hj' : j < len * n := by
        have := (List.getElem?_eq_some_iff.1 hj).1
        rwa [len_flat _ (fun r hr => k5 r (List.mem_of_mem_take hr)), hlt] at this
      obtain ⟨u, c1, c2⟩ := k6 j t (by
        rw [← hj]
        conv => lhs; rw [← List.take_append_drop len rows, List.flatten_append]
        rw [List.getElem?_append_left]
        rw [len_flat _ (fun r hr => k5 r (List.mem_of_mem_take hr)), hlt]; exact hj')
      exact ⟨u, by rw [List.getElem?_take, if_pos hj']; simpa using c1, c2⟩
    · cases e0
/-- what an append onto one's own row leaves -/
theorem app_own {g : Gh} {w : World} {m' : Mem} (hm : MSt g w m') (hn : g nh = .un) {hd len e n B : Nat} {rows news : List (List Tr)} {l : Loc} (hn1 : 1 ≤ n) (hrd : m' hd = some (.vec e n B rows)) (g1 : g hd = .live l) (hle : len ≤ rows.length) (hB : (len + news.length) * B ≤ 150000000000000) (hxr : ∀ r ∈ rows, r.length = n) (hr : ∀ r ∈ news, r.length = n) {xs cl : List Value} (hxl : xs.length = len * n)
    (hxs : ∀ (j : Nat) (t : Tr), (rows.take len).flatten[j]? = some t → ∃ u, xs[j]? = some u ∧ RepT (okB g w) w u t)
    (q4 : ∀ (j : Nat) (t : Tr), news.flatten[j]? = some t → ∃ u, cl[j]? = some u ∧ RepT (okB g w) w u t) {run : Sem Next} {v' : Value} {w' : World} (r1 : run.run P w = .ok (.value v') w') (r2 : w'.ownsRow 0 e n v' (len + news.length) (xs ++ cl)) (r3 : w.grownBy w' l.b) (r4 : v'.ownBlock = l.b ∨ v'.ownBlock = some w.heap.size) :
    LRes P run g w m' nh [(nh, some (.vec e n B (rows.take len ++ news))), (hd, none)] (.sl nh (len + news.length)) := by
  have hrows : ∀ r ∈ rows.take len ++ news, r.length = n := fun r h' => by
    simp only [List.mem_append] at h'
    rcases h' with h' | h'
    · exact hxr r (List.mem_of_mem_take h')
    · exact hr r h'
  obtain ⟨_, ⟨rfl, rn⟩ | ⟨k, cap, cur, rfl, _, k1, k2, k3, k4, k5⟩⟩ := r2
  · have hnil : news = [] := List.eq_nil_of_length_eq_zero (by omega)
    subst hnil
    have hl0 : len = 0 := by simpa using rn
    subst hl0
    exact ⟨_, w', .inl ⟨_, r1, .slN (gapp_new ..)⟩, mst_append (l := l) (l' := .nil) (hd := some hd) hm hn (fun h e => by cases e; exact g1) r3 (by simp) (by simp [Loc.b]) (by simp [Loc.b]) ⟨by simp, by omega, .inl ⟨rfl, by simp⟩⟩, grow_append hm (l := l) (l' := .nil) (hd := some hd) hn (fun h e => by cases e; exact g1) r3 (by simp) (by simp [Loc.b]), fun h h1 h2 => by
      have : hd ≠ h := fun e => by rw [e] at g1; rw [h2] at g1; cases g1
      rw [gapp_un h1 (by simp [this]), h2]⟩
  · have hnew : ∀ b, (Loc.row k cap).b = some b → l.b = some b ∨ w.heap.size ≤ b := fun b eb => by
      cases eb
      rcases r4 with r4 | r4
      · exact .inl (by rw [← r4]; rfl)
      · simp [Value.ownBlock] at r4; exact .inr (by omega)
    have hG := grow_append hm (l := l) (l' := .row k cap) (hd := some hd) hn (fun h e => by cases e; exact g1) r3 (by simp) hnew
    refine ⟨_, w', .inl ⟨_, r1, .sl (b := k) (cap := cap) (gapp_new ..) k2⟩, mst_append (l := l) (l' := .row k cap) (hd := some hd) hm hn (fun h e => by cases e; exact g1) r3 (by simp) hnew (fun b eb => by cases eb; exact (Array.getElem?_eq_some_iff.1 k1).1)
      ⟨by rw [List.length_append, List.length_take, Nat.min_eq_left hle]; exact hB, by omega, .inr ⟨k, cap, cur, rfl, k1, by rw [List.length_append, List.length_take, Nat.min_eq_left hle]; exact k2, by simpa [maxLen] using k3, k4, hrows, fun i t hi => ?_⟩⟩, hG, fun h h1 h2 => by
        have : hd ≠ h := fun e => by rw [e] at g1; rw [h2] at g1; cases g1
        rw [gapp_un h1 (by simp [this]), h2]⟩
    have hfl : (rows.take len).flatten.length = len * n := by
      rw [len_flat _ (fun r h' => hxr r (List.mem_of_mem_take h')), List.length_take, Nat.min_eq_left hle]
    rw [List.flatten_append] at hi
    have : ∃ u, (xs ++ cl)[i]? = some u ∧ RepT (okB g w) w u t := by
      by_cases c1 : i < len * n
      · rw [List.getElem?_append_left (by omega)] at hi
        rw [List.getElem?_append_left (by omega)]
        exact hxs i t hi
      · rw [List.getElem?_append_right (by omega), hfl] at hi
        rw [List.getElem?_append_right (by omega), hxl]
        exact q4 _ t hi
    obtain ⟨u, c1, c2⟩ := this
    refine ⟨u, ?_, c2.grow hG⟩
    rw [← k5, List.getElem?_take] at c1
    split at c1
    · simpa using c1
    · cases c1
theorem brows_len (l : List UInt8) : (brows l).length = l.length := by simp [brows]
theorem brows_row (l : List UInt8) : ∀ r ∈ brows l, r.length = 1 := by
  intro r hr
  simp only [brows, List.mem_map] at hr
  obtain ⟨b, _, rfl⟩ := hr; rfl
theorem brows_flat (l : List UInt8) : (brows l).flatten = l.map fun b => .v (.int .u8 b.toNat) := by
  induction l with
  | nil => rfl
  | cons b l ih => simp only [brows, List.map_cons, List.flatten_cons, List.singleton_append, List.cons.injEq, true_and]; exact ih
theorem byte_good (b : UInt8) : good (.int .u8 b.toNat) := by
  have := b.toNat_lt
  refine ⟨?_, ?_⟩
  · show (0 : Int) ≤ _; omega
  · show _ ≤ (255 : Int); omega
theorem strCells_rep (g : Gh) (w : World) (s : ByteArray) : ∀ (j : Nat) (t : Tr), (brows s.data.toList).flatten[j]? = some t → ∃ u, (Lib.strCells s)[j]? = some u ∧ RepT (okB g w) w u t := by
  intro j t hj
  rw [brows_flat, List.getElem?_map, Option.map_eq_some_iff] at hj
  obtain ⟨b, e1, rfl⟩ := hj
  exact ⟨_, by unfold Lib.strCells; rw [List.getElem?_map, e1]; rfl, .v (byte_good b)⟩
theorem byteT_inv {te : TyI} (h : byteT te = true) : te.d = .int .u8 ∧ te.size = 1 ∧ te.bytes = 1 ∧ te.zero = [.i .u8] := by
  unfold byteT at h
  simp only [Bool.and_eq_true, decide_eq_true_eq] at h
  exact ⟨h.1.1.1, h.1.1.2, h.1.2, h.2⟩
theorem l_appendS (hT : TOk P T) {t u : Nat} {x y : Operand} {ax : AV} {s : ByteArray} (ho : o.op = .call { callee := .builtin .append, args := #[x, y], argTypes := #[t, u] }) (hx : ev x = some ax) (hy : ev y = some (.tr (.v (.string s)))) (h : aappendS T m nh t u ax s K) : LOk P o m nh ev K := by
  have hrun : ∀ (ρ : Operand → Value) (w w' : World) (v : Value), (Builtin.append_ #[t, u] o.type #[ρ x, ρ y]).run P w = .ok v w' → (execOp ρ o).run P w = .ok (.value v) w' := fun ρ w w' v e => by
    simp [execOp, ho, resolve, invoke, builtin, e]
  unfold aappendS at h
  split at h
  case h_2 => exact h.elim
  rename_i e s1 s2 s3 s4 e1 eu
  obtain ⟨tu, eu, hud⟩ : ∃ tu, lk T u = some tu ∧ tu.d = .string := by
    unfold dOf at eu
    split at eu
    · rename_i i hi; exact ⟨i, hi, by simpa using eu⟩
    · cases eu
  split at h
  case h_2 => exact h.elim
  rename_i te e2
  cases hb : byteT te with
  | false => rw [hb] at h; exact h.elim
  | true =>
  rw [hb, cond_true] at h
  obtain ⟨b1, b2, b3, b4⟩ := byteT_inv hb
  have hlen : (brows s.data.toList).length = s.size := by rw [brows_len]; rfl
  split at h
  · obtain ⟨hB, hK⟩ := h
    refine ⟨_, _, _, hK, by simp, by simp, fun g w m' ρ hm hn hrd hev => ?_⟩
    obtain ⟨hv, _⟩ := val_inv (hev _ _ hx)
    obtain ⟨hs, _⟩ := val_inv (hev _ _ hy)
    obtain ⟨v', w', r1, r2, r3, r4⟩ := append_own_str (ty := o.type) hT e1 eu hud e2 b1 b2 b3 b4 (World.ownsRow_nil w 0 e 1) s (by omega)
    rw [← hv, ← hs] at r1
    rw [Nat.zero_add, List.nil_append, ← hlen] at r2
    have := app_nil (nh := nh) (B := 1) hm hn (Nat.le_refl 1) (by rw [hlen]; omega) (brows_row _) (strCells_rep g w s) (hrun ρ w w' _ r1) r2 r3 r4
    rw [hlen] at this
    exact this
  · rename_i hd len
    split at h
    case h_2 => exact h.elim
    rename_i e' n B rows em
    obtain ⟨rfl, rfl, rfl, hle, hB, hK⟩ := h
    refine ⟨_, _, _, hK, by simpa using em, fun p hp => ?_, fun g w m' ρ hm hn hrd hev => ?_⟩
    · simp only [List.mem_cons, List.not_mem_nil, or_false] at hp
      rcases hp with rfl | rfl
      · exact .inl rfl
      · exact .inr ⟨(hd, .vec e' 1 1 rows), by simp, rfl⟩
    obtain ⟨hs, _⟩ := val_inv (hev _ _ hy)
    have hmh := hrd (hd, .vec e' 1 1 rows) (by simp)
    obtain ⟨l, xs, g1, hown, hlb, hxr, hxs⟩ := brow_own hm hmh (hev _ _ hx) hle
    obtain ⟨v', w', r1, r2, r3, r4⟩ := append_own_str (ty := o.type) hT e1 eu hud e2 b1 b2 b3 b4 hown s hB
    rw [← hs] at r1
    rw [hlb] at r3 r4
    rw [← hlen] at r2
    have := app_own (nh := nh) (B := 1) hm hn (Nat.le_refl 1) hmh g1 hle (by rw [hlen]; omega) hxr (brows_row _) hown.1 hxs (strCells_rep g w s) (hrun ρ w w' _ r1) r2 r3 r4
    rw [hlen] at this
    exact this
  · exact h.elim
/-! conversions -/
theorem l_convB (hT : TOk P T) {s d : Nat} {x : Operand} {a : AV} {e : Nat} {te : TyI} {l : List UInt8} {rd : List (Nat × Blk)} {i1 i2 i3 i4 : Nat} {z1 z2 : List Z} {q1 q2 : Bool} (ho : o.op = .convert s d x) (hs : lk T s = some ⟨.slice e, i1, i2, z1, q1⟩) (he : lk T e = some te) (hb : byteT te = true) (hd : lk T d = some ⟨.string, i3, i4, z2, q2⟩)
    (hx : ev x = some a) (hsrc : srcRows 1 m a = some (brows l, rd)) (hrd0 : ∀ p ∈ rd, m p.1 = some p.2) (hl : l.length ≤ 140737488351232) (hK : K (.tr (.v (.string ⟨l.toArray⟩))) rd []) : LOk P o m nh ev K := by
  refine LOk.pure _ _ hK hrd0 fun g w m' ρ hm hrd hev => ?_
  obtain ⟨b1, b2, b3, b4⟩ := byteT_inv hb
  obtain ⟨ti, ud, zt, _, u2, u3, _⟩ := hT.info hs
  obtain rfl := D_slice u3
  obtain ⟨ti2, ud2, zt2, _, v2, v3, _⟩ := hT.info hd
  obtain rfl := D_string v3
  obtain ⟨ti', u', z', j1, j2, j3, _⟩ := hT.info he
  rw [b1] at j3
  have j3 : u' = .int .u8 := by cases u' <;> simp [D.of] at j3 <;> first | (subst j3; rfl) | exact j3
  subst j3
  obtain ⟨hr, ao, c, cl, p1, p2, p3, p4⟩ := srcRows_ok hm (by omega) hsrc hrd (hev _ _ hx)
  refine ⟨.string ⟨l.toArray⟩, ?_, .tr (.v (show (ByteArray.mk l.toArray).size ≤ 9223372036854775807 from ?_))⟩
  · have hcl : ∀ j, j < l.length → cl[j]? = some (.int .u8 ((l.map fun b => (b.toNat : Int)).getD j 0)) := fun j hj => by
      have := p4 j (.v (.int .u8 (l[j]).toNat)) (by rw [brows_flat, List.getElem?_map, List.getElem?_eq_getElem hj]; rfl)
      obtain ⟨u, c1, c2⟩ := this
      cases c2
      rw [c1]
      simp [List.getD, hj]
    have hconv : (convert s d (ρ x)).run P w = .ok (.string ⟨l.toArray⟩) w := by
      rw [p1]
      cases ao with
      | none =>
        have hl0 : l = [] := by
          rw [List.eq_nil_iff_forall_not_mem]
          intro b hb
          obtain ⟨j, hj⟩ := List.mem_iff_getElem?.1 hb
          have hj' := (List.getElem?_eq_some_iff.1 hj).1
          obtain ⟨_, _, e0, _⟩ := p3 j _ (hcl j hj')
          cases e0
        subst hl0
        rw [run_convert_bytes_nil w s e u2 j2 _ _ d v2]
        rfl
      | some A =>
        obtain ⟨ab, aoff, asp⟩ := A
        by_cases h0 : l.length = 0
        · have hl0 := List.eq_nil_of_length_eq_zero h0
          subst hl0
          rw [run_convert_bytes_string w s d e _ _ _ u2 j2 v2]
          simp [Conv.bytesToString, brows, loadCells, loadCellsFrom]
          rfl
        · obtain ⟨bb, oo, e0, _⟩ := p3 0 _ (hcl 0 (by omega))
          cases e0
          have := run_convert_bytes_arg (P := P) w s e u2 j2 ab aoff (brows l).length c (l.map fun b => (b.toNat : Int)) (by simp [brows]) (fun i hi => by
            rw [brows_len] at hi
            obtain ⟨bb, oo, e0, e1⟩ := p3 i _ (hcl i hi)
            cases e0
            exact e1) d v2
          rw [this]
          unfold strOfNums
          congr 3
          simp [List.map_map, Function.comp_def]
    simp only [execOp, ho, Sem.run_bind, hconv, Result.andThen_ok]
    rfl
  · show l.toArray.size ≤ _
    rw [List.size_toArray]; omega
end
end Go.Proofs.YtioafhkkkmfkdaaGreatDoor.am

namespace Go.Proofs.YtioafhkkkmfkdaaGreatDoor.am
open Go
set_option linter.unusedSimpArgs false
theorem flat_at {n : Nat} (hn : 0 < n) : ∀ (rows : List (List Tr)), (∀ r ∈ rows, r.length = n) → ∀ (j : Nat) (t : Tr), rows.flatten[j]? = some t → ∃ row, rows[j / n]? = some row ∧ row[j % n]? = some t
  | [], _, j, t, h => by simp at h
  | r :: rows, hr, j, t, h => by
    have hl := hr r (.head _)
    by_cases hj : j < n
    · rw [List.flatten_cons, List.getElem?_append_left (by omega)] at h
      exact ⟨r, by rw [Nat.div_eq_of_lt hj]; rfl, by rw [Nat.mod_eq_of_lt hj]; exact h⟩
    · rw [List.flatten_cons, List.getElem?_append_right (by omega), hl] at h
      obtain ⟨row, h1, h2⟩ := flat_at hn rows (fun r h => hr r (.tail _ h)) (j - n) t h
      refine ⟨row, ?_, ?_⟩
      · rw [Nat.div_eq_sub_div hn (by omega)]; exact h1
      · rw [Nat.mod_eq_sub_mod (by omega)]; exact h2
theorem flat_take {α : Type} {n : Nat} : ∀ (k : Nat) (rows : List (List α)), (∀ r ∈ rows, r.length = n) → (rows.take k).flatten = rows.flatten.take (k * n)
  | 0, rows, _ => by simp
  | k + 1, [], _ => by simp
  | k + 1, r :: rows, h => by
    have hl := h r (.head _)
    rw [List.take_succ_cons, List.flatten_cons, List.flatten_cons, flat_take k rows fun r hr => h r (.tail _ hr), List.take_append, hl, Nat.add_mul, Nat.one_mul, List.take_of_length_le (l := r) (by omega), Nat.add_sub_cancel]
theorem flat_drop {α : Type} {n : Nat} : ∀ (k : Nat) (rows : List (List α)), (∀ r ∈ rows, r.length = n) → (rows.drop k).flatten = rows.flatten.drop (k * n)
  | 0, rows, _ => by simp
  | k + 1, [], _ => by simp
  | k + 1, r :: rows, h => by
    have hl := h r (.head _)
    rw [List.drop_succ_cons, List.flatten_cons, flat_drop k rows fun r hr => h r (.tail _ hr), List.drop_append, hl, Nat.add_mul, Nat.one_mul, List.drop_of_length_le (l := r) (by omega), List.nil_append, Nat.add_sub_cancel]
section
variable {P : Program} {T : Ty} {o : Oper} {m : Mem} {nh : Nat} {ev : Operand → Option AV} {K : KK}
theorem copyRows_ok {g : Gh} {w : World} {m m' : Mem} (hm : MSt g w m') {n : Nat} (hn : 0 < n) {y : AV} {v : Value} {news : List (List Tr)} {rd : List (Nat × Blk)} (h : copyRows n m y = some (news, rd)) (hlen : copyLen y news) (hlf : leafR news) (hrd : ∀ p ∈ rd, m' p.1 = some p.2) (hv : Rep g w v y) :
    (∀ r ∈ news, r.length = n) ∧ ∃ (ao : Option Addr) (c : Nat) (cl : List Value), v = .slice ao news.length c ∧ cl.length = news.length * n ∧ (∀ (j : Nat) (u : Value), cl[j]? = some u → ∃ b o, ao = some ⟨b, o, none⟩ ∧ w.cell? ⟨b, o + j, none⟩ = some u) ∧
      ∀ (j : Nat) (t : Tr), news.flatten[j]? = some t → ∃ u, cl[j]? = some u ∧ RepT (okB g w) w u t := by
  unfold copyRows at h
  split at h
  · rename_i q hd n' i len
    split at h
    case h_2 => cases h
    rename_i n2 B rows em
    cases hc : (Nat.beq q (3 * HMod) && Nat.beq n n' && Nat.beq n n2 && Nat.ble 1 i) with
    | false => rw [hc] at h; cases h
    | true =>
      rw [hc, cond_true] at h
      simp only [Option.some.injEq, Prod.mk.injEq] at h
      obtain ⟨rfl, rfl⟩ := h
      simp only [Bool.and_eq_true] at hc
      have hq := Nat.eq_of_beq_eq_true hc.1.1.1
      obtain rfl := Nat.eq_of_beq_eq_true hc.1.1.2
      obtain rfl := Nat.eq_of_beq_eq_true hc.1.2
      have hi := Nat.le_of_ble_eq_true hc.2
      obtain ⟨l, g1, g2⟩ := hm.blk hd _ (hrd (hd, .own n B rows []) (by simp))
      have hpos : 0 < i * n := Nat.mul_pos (by omega) hn
      replace hlen : ((rows.drop i).take len).length = len := hlen
      cases hv with
      | ifc h1 _ => omega
      | bnd h1 _ => omega
      | psl hp =>
        generalize hpv : Value.pointer _ = pv at hp
        cases hp with
        | vptD e => rw [g1] at e; cases e
        | vpt e =>
          simp only [Value.pointer.injEq, Option.some.injEq, Addr.mk.injEq] at hpv
          omega
      | win hp hle =>
        generalize hpv : Value.pointer _ = pv at hp
        cases hp with
        | vptD e => rw [g1] at e; cases e
        | vpt e =>
          rw [g1] at e
          cases e
          cases hpv
          rename_i b cap
          obtain ⟨hB, _, ⟨e, _⟩ | ⟨b2, cap2, cur, e2, Fs, e, k1, k2, k3, k4, k5, k6, k7, k8⟩⟩ := g2
          · cases e
          cases e
          have hmin : len = 0 ∨ i + len ≤ rows.length := by
            rw [List.length_take, List.length_drop] at hlen
            omega
          have hsz : len = 0 ∨ i * n + len * n ≤ cur.size := by
            rcases hmin with h | h
            · exact .inl h
            · right
              rw [← Nat.add_mul, k4]
              exact Nat.mul_le_mul_right _ (by omega)
          have hnl : ∀ r ∈ (rows.drop i).take len, r.length = n := fun r hr => k5 r (List.mem_of_mem_drop (List.mem_of_mem_take hr))
          refine ⟨hnl, _, _, (cur.toList.drop (i * n)).take (len * n), by rw [hlen], ?_, fun j u hj => ⟨b, _, rfl, ?_⟩, fun j t hj => ?_⟩
          · rw [hlen, List.length_take, List.length_drop, Array.length_toList]
            rcases hsz with rfl | h
            · simp
            · omega
          · rw [heap_cell k1]
            rw [List.getElem?_take] at hj
            split at hj
            · rw [List.getElem?_drop] at hj
              rw [Nat.add_zero]
              simpa using hj
            · cases hj
          · obtain ⟨row, h1, h2⟩ := flat_at hn _ hnl j t hj
            have hjl : j < len * n := by
              have := (List.getElem?_eq_some_iff.1 hj).1
              rwa [len_flat _ hnl, hlen] at this
            have h1' : rows[i + j / n]? = some row := by
              rw [List.getElem?_take] at h1
              split at h1
              · rwa [List.getElem?_drop] at h1
              · cases h1
            have hdm : (i + j / n) * n + j % n = i * n + j := by
              have := Nat.div_add_mod j n
              rw [Nat.mul_comm] at this
              rw [Nat.add_mul]; omega
            have hin : i * n + j < cur.size := by
              rcases hsz with rfl | h
              · simp at hjl
              · omega
            obtain ⟨c, hcur⟩ : ∃ c, cur[i * n + j]? = some c := ⟨cur[i * n + j], by simp [hin]⟩
            obtain ⟨u1, _⟩ := k8 (i + j / n) (j % n) row t c h1' h2 (by rw [hdm]; exact hcur)
            obtain ⟨x, rfl⟩ := hlf row (List.mem_of_getElem? h1) t (List.mem_of_getElem? h2)
            refine ⟨c, ?_, ?_⟩
            · rw [List.getElem?_take, if_pos hjl, List.getElem?_drop, Array.getElem?_toList]; exact hcur
            · cases u1 rfl with
              | v hg => exact .v hg
  · exact srcRows_ok hm hn h hrd hv
theorem copyRows_rd {n : Nat} {m : Mem} {y : AV} {news : List (List Tr)} {rd : List (Nat × Blk)} (h : copyRows n m y = some (news, rd)) : ∀ p ∈ rd, m p.1 = some p.2 := by
  unfold copyRows at h
  split at h
  · rename_i q hd n' i len
    split at h
    case h_2 => cases h
    rename_i n2 B rows em
    cases hc : (Nat.beq q (3 * HMod) && Nat.beq n n' && Nat.beq n n2 && Nat.ble 1 i) with
    | false => rw [hc] at h; cases h
    | true =>
      rw [hc, cond_true] at h
      simp only [Option.some.injEq, Prod.mk.injEq] at h
      obtain ⟨rfl, rfl⟩ := h
      simpa using em
  · exact srcRows_rd h
theorem updM_same {m : Mem} {h : Nat} {b : Blk} (e : m h = some b) : updM m [(h, some b)] = m := by
  funext k
  unfold updM lk lk
  cases hk : Nat.beq h k with
  | true => rw [← Nat.eq_of_beq_eq_true hk, e]; rfl
  | false => rfl
theorem l_copy (hT : TOk P T) {t t' : Nat} {x y : Operand} {ax ay : AV} (ho : o.op = .call { callee := .builtin .copy, args := #[x, y], argTypes := #[t, t'] }) (hx : ev x = some ax) (hy : ev y = some ay) (h : acopy T m t ax ay K) : LOk P o m nh ev K := by
  have hrun : ∀ (ρ : Operand → Value) (w w' : World) (v : Value), (Builtin.copy_ #[t, t'] o.type #[ρ x, ρ y]).run P w = .ok v w' → (execOp ρ o).run P w = .ok (.value v) w' := fun ρ w w' v e => by
    simp [execOp, ho, resolve, invoke, builtin, e]
  unfold acopy at h
  split at h
  case h_2 => exact h.elim
  rename_i e s1 s2 s3 s4 hd len e1
  split at h
  case h_2 => exact h.elim
  rename_i te e' n B rows e2 em
  split at h
  case h_2 => exact h.elim
  rename_i news rd e3
  obtain ⟨rfl, hle, hcl, hlf, hne, hK⟩ := h
  have hk1 : Nat.min news.length len ≤ news.length := Nat.min_le_left _ _
  have hk2 : Nat.min news.length len ≤ len := Nat.min_le_right _ _
  refine ⟨_, _, _, hK, fun p hp => ?_, fun p hp => .inr ⟨(hd, .vec e' te.size B rows), by simp, by simp at hp; rw [hp]⟩, fun g w m' ρ hm hn hrd hev => ?_⟩
  · simp only [List.mem_cons] at hp
    rcases hp with rfl | hp
    · exact em
    · exact copyRows_rd e3 p hp
  clear hK
  have hmd := hrd (hd, .vec e' te.size B rows) (by simp)
  obtain ⟨lc, g1, g2⟩ := hm.blk hd _ hmd
  have g2' := g2
  obtain ⟨hB, hn0, hloc⟩ := g2'
  obtain ⟨hr, ao, c, cl, q1, q2, q3, q4⟩ := copyRows_ok hm hn0 e3 hcl hlf (fun p hp => hrd p (by simp [hp])) (hev _ _ hy)
  obtain ⟨ti, u, zt, _, u2, u3, _⟩ := hT.info e1
  obtain rfl := D_slice u3
  obtain ⟨ti', u', z', i1, _, _, i4, i5, i6, i7, i8⟩ := hT.info e2
  have hkE : Nat.min news.length len = min news.length len := rfl
  generalize hk : Nat.min news.length len = k at *
  by_cases h0 : k = 0
  · subst h0
    refine ⟨g, w, .inl ⟨.int .i64 ((0 : Nat) : Int), hrun ρ w w _ ?_, .tr (.v (len_good _ (by omega)))⟩, ?_, Grow.refl _ _, fun _ _ h => h⟩
    · rcases (hev _ _ hx).sl_inv g1 with ⟨b, cap, rfl, hlc, hv⟩ | ⟨rfl, rfl, hv⟩
      · rw [hv, q1]
        cases ao <;> simp [Builtin.copy_, run_underlying u2, Builtin.lenOf, sizeOf, typeInfo, i1, hkE.symm, Builtin.firstCells, loadCells, loadCellsFrom, storeCells, goInt]
      · rw [hv, q1]
        cases ao <;> simp [Builtin.copy_, run_underlying u2, Builtin.lenOf, sizeOf, typeInfo, i1, Builtin.firstCells, loadCells, loadCellsFrom, goInt]
    · rw [List.take_zero, List.drop_zero, List.nil_append, updM_same hmd]; exact hm
  · obtain ⟨b, cap, cur, rfl, g3, g4, g4', g5, g6, g7⟩ : ∃ b cap cur, lc = .row b cap ∧ w.heap[b]? = some (.cells cur e' (0, 0)) ∧ rows.length ≤ cap ∧ cap ≤ 9223372036854775807 ∧ cur.size = cap * te.size ∧
        (∀ row ∈ rows, row.length = te.size) ∧ ∀ (i : Nat) (t : Tr), rows.flatten[i]? = some t → ∃ c, cur[i]? = some c ∧ RepT (okB g w) w c t := by
      rcases hloc with ⟨_, hv⟩ | hv
      · rw [hv] at hle; simp at hle; omega
      · exact hv
    rcases (hev _ _ hx).sl_inv g1 with ⟨b', cap', e, hlc, hv⟩ | ⟨e, _⟩
    case inr => cases e
    cases e
    have hclp : 0 < cl.length := by rw [q2]; exact Nat.mul_pos (by omega) hn0
    obtain ⟨bk, of, rfl, _⟩ := q3 0 cl[0] (by simp)
    have hkn : k * te.size ≤ news.length * te.size := Nat.mul_le_mul_right _ hk1
    have hkr : k * te.size ≤ cap * te.size := Nat.mul_le_mul_right _ (by omega)
    have hl' : (cl.take (k * te.size)).length = k * te.size := by rw [List.length_take, q2]; omega
    have hnews : ∀ j u, (cl.take (k * te.size))[j]? = some u → w.cell? ((⟨bk, of, none⟩ : Addr).add j) = some u := fun j u hj => by
      rw [List.getElem?_take] at hj
      split at hj
      · obtain ⟨b2, o2, c1, c2⟩ := q3 j u hj
        cases c1
        rw [add_mk]; exact c2
      · cases hj
    have hfl : news.flatten.length = news.length * te.size := len_flat news hr
    have hone : ∀ u ∈ cl.take (k * te.size), u.oneCell' = true := fun u hu => by
      obtain ⟨j, hj⟩ := List.mem_iff_getElem?.1 (List.mem_of_mem_take hu)
      have hlt : j < news.flatten.length := by rw [hfl, ← q2]; exact (List.getElem?_eq_some_iff.1 hj).1
      obtain ⟨u', c1, c2⟩ := q4 j news.flatten[j] (by simp [hlt])
      rw [hj] at c1; cases c1
      exact c2.one
    have hf := run_firstCells_some (P := P) w te.size k ⟨bk, of, none⟩ news.length c _ hl' hnews
    have hst := run_storeCells_at P b 0 e' (cl.take (k * te.size)) 0 cur w g3 (by rw [hl']; omega) hone
    have hcopy : (Builtin.copy_ #[t, t'] o.type #[ρ x, ρ y]).run P w = .ok (.int .i64 (k : Int)) (w.setRow b (cur.toList.take (0 + 0) ++ cl.take (k * te.size) ++ cur.toList.drop (0 + 0 + (cl.take (k * te.size)).length)).toArray) := by
      rw [hv, q1]
      rw [← i4] at hf hst ⊢
      simp only [Nat.add_zero] at hst
      simp [Builtin.copy_, run_underlying u2, Builtin.lenOf, sizeOf, typeInfo, i1, ← hkE, hf, hst, goInt]
    have hk2' := setRow_heap w b cur (cur.toList.take (0 + 0) ++ cl.take (k * te.size) ++ cur.toList.drop (0 + 0 + (cl.take (k * te.size)).length)).toArray e' _ g3
    have hko := fun j hj => setRow_other w b j (cur.toList.take (0 + 0) ++ cl.take (k * te.size) ++ cur.toList.drop (0 + 0 + (cl.take (k * te.size)).length)).toArray hj
    have hg := grow_write (b := b) (hm.xl hd b (.root g1 rfl)) (.root g1 rfl) (w := w) (w' := w.setRow b (cur.toList.take (0 + 0) ++ cl.take (k * te.size) ++ cur.toList.drop (0 + 0 + (cl.take (k * te.size)).length)).toArray) rfl rfl rfl (by simp) hko
    have hsz2 : (w.setRow b (cur.toList.take (0 + 0) ++ cl.take (k * te.size) ++ cur.toList.drop (0 + 0 + (cl.take (k * te.size)).length)).toArray).heap.size = w.heap.size := by simp
    generalize w.setRow b (cur.toList.take (0 + 0) ++ cl.take (k * te.size) ++ cur.toList.drop (0 + 0 + (cl.take (k * te.size)).length)).toArray = w2 at *
    refine ⟨g, w2, .inl ⟨_, hrun ρ w w2 _ hcopy, .tr (.v (len_good _ (by omega)))⟩, ?_, hg, fun _ _ h => h⟩
    have hrl : (news.take k ++ rows.drop k).length = rows.length := by rw [List.length_append, List.length_take, List.length_drop]; omega
    refine mst_write hm g1 (.inl rfl) hg hsz2 hko ⟨by rw [hrl]; exact hB, hn0, .inr ⟨b, cap, _, rfl, hk2', by rw [hrl]; exact g4, g4', ?_, fun r hr' => ?_, fun j t hj => ?_⟩⟩
    · simp only [List.size_toArray, List.length_append, List.length_take, List.length_drop, Array.length_toList, hl']
      omega
    · rcases List.mem_append.1 hr' with h | h
      · exact hr r (List.mem_of_mem_take h)
      · exact g6 r (List.mem_of_mem_drop h)
    · rw [List.flatten_append, flat_take k news hr, flat_drop k rows g6] at hj
      simp only [List.getElem?_toArray, List.append_assoc, Nat.add_zero, List.take_zero, List.nil_append]
      have hft : (news.flatten.take (k * te.size)).length = k * te.size := by rw [List.length_take, hfl]; omega
      by_cases hjk : j < k * te.size
      · rw [List.getElem?_append_left (by omega), List.getElem?_take, if_pos hjk] at hj
        obtain ⟨u, c1, c2⟩ := q4 j t hj
        refine ⟨u, ?_, c2.grow hg⟩
        rw [List.getElem?_append_left (by omega), List.getElem?_take, if_pos hjk]
        exact c1
      · rw [List.getElem?_append_right (by omega), hft, List.getElem?_drop] at hj
        rw [List.getElem?_append_right (by omega), hl', List.getElem?_drop, Nat.zero_add, show k * te.size + (j - k * te.size) = j by omega] at *
        obtain ⟨c, w1, w2⟩ := g7 j t hj
        exact ⟨c, by rw [Array.getElem?_toList]; exact w1, w2.grow hg⟩
end
end Go.Proofs.YtioafhkkkmfkdaaGreatDoor.am
