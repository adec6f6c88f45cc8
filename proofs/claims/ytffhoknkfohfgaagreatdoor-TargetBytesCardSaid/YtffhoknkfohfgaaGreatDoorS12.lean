/- Contract of the reference's putInstr: its bytes are target's. Contract of the reference's Encode: the bytes are target's. Contracts of the reference's reader of bytes (seat of Bytes): number, small, word. Contract of the reference's reader of an instruction. Plain: what the reference's reader of bytes reads: numbers. Plain: what the reference's reader of bytes reads: instructions. What the reference's Decode reads. Plain: an object's bytes are read as that object, and are few. Plain: what the reference's reader of bytes reads: cores and objects. -/
import Derived.Test.YtffhoknkfohfgaaGreatDoorS6
import Derived.Test.YtffhoknkfohfgaaGreatDoorS11
import Derived.Test.YtffhoknkfohfgaaGreatDoorS7
set_option linter.all false

namespace Go.Proofs.YtffhoknkfohfgaaGreatDoor.am
open Go Go.Proofs
theorem z_putN (l : List UInt8) (x : Int) (hl : l.length ≤ 100000000) :
    K 45 [.sl 0 l.length, .tr (tq (IntKind.u64.wrap x))] [bytB l] (.ret (.sl 1 (l ++ nuB x).length)) [none, some (bytB (l ++ nuB x))] := by
  have h := u64_wrap x
  have := z_putNumber l (IntKind.u64.wrap x).toNat (by omega) hl
  have e : (((IntKind.u64.wrap x).toNat : Nat) : Int) = IntKind.u64.wrap x := Int.toNat_of_nonneg h.1
  have e2 : varB (((IntKind.u64.wrap x).toNat : Nat) : Int) = nuB x := rfl
  rw [e2, e] at this
  exact this

set_option maxRecDepth 100000 in
theorem z_putI1 {op d a b addr to_ word from_ : Int} (code mem : Int) (hR : RightF ⟨1, op, d, a, b, addr, to_, word, from_⟩ code mem) (l : List UInt8) (hl : l.length ≤ 50000000) :
    K 47 [.sl 0 l.length, (Ins.mk 1 op d a b addr to_ word from_).av] [bytB l] (.ret (.sl 1 (l ++ insE ⟨1, op, d, a, b, addr, to_, word, from_⟩).length)) [none, some (bytB (l ++ insE ⟨1, op, d, a, b, addr, to_, word, from_⟩))] := by
  obtain ⟨hk, hf, ho, hd, ha, hb, hm, ht, hwz⟩ := hR
  simp only at hk hf ho hd ha hb hm ht hwz
  have e : usedM 1 op = 66 := rfl
  rw [e] at ho hd ha hb hm ht hwz
  obtain rfl := ho.1 (by decide)
  have hd := hd.2 (by decide)
  obtain rfl := ha.1 (by decide)
  obtain rfl := hb.1 (by decide)
  obtain rfl := hm.1 (by decide)
  obtain rfl := ht.1 (by decide)
  have hE : l ++ insE ⟨1, 0, d, 0, 0, 0, 0, word, from_⟩ = (((l ++ nuB 1) ++ nuB d) ++ wrdB word) ++ nuB from_ := by
    unfold insE fieldsE
    simp [List.flatMap, kuse, byK, kuses, fieldE]
  rw [hE]
  clear hE
  have hu : K 28 [.tr (tu 1)] [] (.ret (.tup [.tr (tb true), .tr (tb false), .tr (tb false), .tr (tb false)])) [] := z_uses 1
  have nl := fun x => nuB_len x
  have q2 := nuB_len d
  have q64 := wrdB_len word
  have qk := nuB_len 1
  have qf := nuB_len from_
  refine Ctr.new [] hT hmix Tryz.func47 rfl (fun _ _ => by kernel_rfl) rfl fun hok => ?_
  clear hok
  conv => whnf
  refine acall.new [0] [] _ _ _ _ (z_putN (l) 1 (by first | omega | (simp only [List.length_append]; omega))) rfl rfl rfl rfl ⟨⟨rfl, rfl⟩, .inl rfl, trivial⟩ aut rfl rfl fun _ => ?_
  conv => whnf
  refine acall.pure _ (hu) rfl rfl fun _ => ?_
  conv => whnf
  refine acall.new [_] [] _ _ _ _ (z_putN (l ++ nuB 1) d (by first | omega | (simp only [List.length_append]; omega))) rfl rfl rfl rfl ⟨⟨rfl, rfl⟩, .inl rfl, trivial⟩ aut rfl rfl fun _ => ?_
  conv => whnf
  refine acall.new [_] [] _ _ _ _ (z_putWord ((l ++ nuB 1) ++ nuB d) word (by first | omega | (simp only [List.length_append]; omega))) rfl rfl rfl rfl ⟨⟨rfl, rfl⟩, .inl rfl, trivial⟩ aut rfl rfl fun _ => ?_
  conv => whnf
  refine acall.new [_] [] _ _ _ _ (z_putN (((l ++ nuB 1) ++ nuB d) ++ wrdB word) from_ (by first | omega | (simp only [List.length_append]; omega))) rfl rfl rfl rfl ⟨⟨rfl, rfl⟩, .inl rfl, trivial⟩ aut rfl rfl fun _ => ?_
  conv => whnf
  exact ⟨[0, _], rfl, rfl, ⟨rfl, rfl⟩, aut⟩

set_option maxRecDepth 100000 in
theorem z_putI3 {op d a b addr to_ word from_ : Int} (code mem : Int) (hR : RightF ⟨3, op, d, a, b, addr, to_, word, from_⟩ code mem) (l : List UInt8) (hl : l.length ≤ 50000000) :
    K 47 [.sl 0 l.length, (Ins.mk 3 op d a b addr to_ word from_).av] [bytB l] (.ret (.sl 1 (l ++ insE ⟨3, op, d, a, b, addr, to_, word, from_⟩).length)) [none, some (bytB (l ++ insE ⟨3, op, d, a, b, addr, to_, word, from_⟩))] := by
  obtain ⟨hk, hf, ho, hd, ha, hb, hm, ht, hwz⟩ := hR
  simp only at hk hf ho hd ha hb hm ht hwz
  have e : usedM 3 op = 18 := rfl
  rw [e] at ho hd ha hb hm ht hwz
  obtain rfl := ho.1 (by decide)
  have hd := hd.2 (by decide)
  obtain rfl := ha.1 (by decide)
  obtain rfl := hb.1 (by decide)
  have hm := hm.2 (by decide)
  obtain rfl := ht.1 (by decide)
  obtain rfl := hwz (by decide)
  have hE : l ++ insE ⟨3, 0, d, 0, 0, addr, 0, 0, from_⟩ = (((l ++ nuB 3) ++ nuB d) ++ nuB addr) ++ nuB from_ := by
    unfold insE fieldsE
    simp [List.flatMap, kuse, byK, kuses, fieldE]
  rw [hE]
  clear hE
  have hu : K 28 [.tr (tu 3)] [] (.ret (.tup [.tr (tb true), .tr (tb false), .tr (tb true), .tr (tb false)])) [] := z_uses 3
  have nl := fun x => nuB_len x
  have q2 := nuB_len d
  have q16 := nuB_len addr
  have qk := nuB_len 3
  have qf := nuB_len from_
  refine Ctr.new [] hT hmix Tryz.func47 rfl (fun _ _ => by kernel_rfl) rfl fun hok => ?_
  clear hok
  conv => whnf
  refine acall.new [0] [] _ _ _ _ (z_putN (l) 3 (by first | omega | (simp only [List.length_append]; omega))) rfl rfl rfl rfl ⟨⟨rfl, rfl⟩, .inl rfl, trivial⟩ aut rfl rfl fun _ => ?_
  conv => whnf
  refine acall.pure _ (hu) rfl rfl fun _ => ?_
  conv => whnf
  refine acall.new [_] [] _ _ _ _ (z_putN (l ++ nuB 3) d (by first | omega | (simp only [List.length_append]; omega))) rfl rfl rfl rfl ⟨⟨rfl, rfl⟩, .inl rfl, trivial⟩ aut rfl rfl fun _ => ?_
  conv => whnf
  refine acall.new [_] [] _ _ _ _ (z_putN ((l ++ nuB 3) ++ nuB d) addr (by first | omega | (simp only [List.length_append]; omega))) rfl rfl rfl rfl ⟨⟨rfl, rfl⟩, .inl rfl, trivial⟩ aut rfl rfl fun _ => ?_
  conv => whnf
  refine acall.new [_] [] _ _ _ _ (z_putN (((l ++ nuB 3) ++ nuB d) ++ nuB addr) from_ (by first | omega | (simp only [List.length_append]; omega))) rfl rfl rfl rfl ⟨⟨rfl, rfl⟩, .inl rfl, trivial⟩ aut rfl rfl fun _ => ?_
  conv => whnf
  exact ⟨[0, _], rfl, rfl, ⟨rfl, rfl⟩, aut⟩

set_option maxRecDepth 100000 in
theorem z_putI4 {op d a b addr to_ word from_ : Int} (code mem : Int) (hR : RightF ⟨4, op, d, a, b, addr, to_, word, from_⟩ code mem) (l : List UInt8) (hl : l.length ≤ 50000000) :
    K 47 [.sl 0 l.length, (Ins.mk 4 op d a b addr to_ word from_).av] [bytB l] (.ret (.sl 1 (l ++ insE ⟨4, op, d, a, b, addr, to_, word, from_⟩).length)) [none, some (bytB (l ++ insE ⟨4, op, d, a, b, addr, to_, word, from_⟩))] := by
  obtain ⟨hk, hf, ho, hd, ha, hb, hm, ht, hwz⟩ := hR
  simp only at hk hf ho hd ha hb hm ht hwz
  have e : usedM 4 op = 20 := rfl
  rw [e] at ho hd ha hb hm ht hwz
  obtain rfl := ho.1 (by decide)
  obtain rfl := hd.1 (by decide)
  have ha := ha.2 (by decide)
  obtain rfl := hb.1 (by decide)
  have hm := hm.2 (by decide)
  obtain rfl := ht.1 (by decide)
  obtain rfl := hwz (by decide)
  have hE : l ++ insE ⟨4, 0, 0, a, 0, addr, 0, 0, from_⟩ = (((l ++ nuB 4) ++ nuB a) ++ nuB addr) ++ nuB from_ := by
    unfold insE fieldsE
    simp [List.flatMap, kuse, byK, kuses, fieldE]
  rw [hE]
  clear hE
  have hu : K 28 [.tr (tu 4)] [] (.ret (.tup [.tr (tb false), .tr (tb true), .tr (tb true), .tr (tb false)])) [] := z_uses 4
  have nl := fun x => nuB_len x
  have q4 := nuB_len a
  have q16 := nuB_len addr
  have qk := nuB_len 4
  have qf := nuB_len from_
  refine Ctr.new [] hT hmix Tryz.func47 rfl (fun _ _ => by kernel_rfl) rfl fun hok => ?_
  clear hok
  conv => whnf
  refine acall.new [0] [] _ _ _ _ (z_putN (l) 4 (by first | omega | (simp only [List.length_append]; omega))) rfl rfl rfl rfl ⟨⟨rfl, rfl⟩, .inl rfl, trivial⟩ aut rfl rfl fun _ => ?_
  conv => whnf
  refine acall.pure _ (hu) rfl rfl fun _ => ?_
  conv => whnf
  refine acall.new [_] [] _ _ _ _ (z_putN (l ++ nuB 4) a (by first | omega | (simp only [List.length_append]; omega))) rfl rfl rfl rfl ⟨⟨rfl, rfl⟩, .inl rfl, trivial⟩ aut rfl rfl fun _ => ?_
  conv => whnf
  refine acall.new [_] [] _ _ _ _ (z_putN ((l ++ nuB 4) ++ nuB a) addr (by first | omega | (simp only [List.length_append]; omega))) rfl rfl rfl rfl ⟨⟨rfl, rfl⟩, .inl rfl, trivial⟩ aut rfl rfl fun _ => ?_
  conv => whnf
  refine acall.new [_] [] _ _ _ _ (z_putN (((l ++ nuB 4) ++ nuB a) ++ nuB addr) from_ (by first | omega | (simp only [List.length_append]; omega))) rfl rfl rfl rfl ⟨⟨rfl, rfl⟩, .inl rfl, trivial⟩ aut rfl rfl fun _ => ?_
  conv => whnf
  exact ⟨[0, _], rfl, rfl, ⟨rfl, rfl⟩, aut⟩

set_option maxRecDepth 100000 in
theorem z_putI5 {op d a b addr to_ word from_ : Int} (code mem : Int) (hR : RightF ⟨5, op, d, a, b, addr, to_, word, from_⟩ code mem) (l : List UInt8) (hl : l.length ≤ 50000000) :
    K 47 [.sl 0 l.length, (Ins.mk 5 op d a b addr to_ word from_).av] [bytB l] (.ret (.sl 1 (l ++ insE ⟨5, op, d, a, b, addr, to_, word, from_⟩).length)) [none, some (bytB (l ++ insE ⟨5, op, d, a, b, addr, to_, word, from_⟩))] := by
  obtain ⟨hk, hf, ho, hd, ha, hb, hm, ht, hwz⟩ := hR
  simp only at hk hf ho hd ha hb hm ht hwz
  have e : usedM 5 op = 18 := rfl
  rw [e] at ho hd ha hb hm ht hwz
  obtain rfl := ho.1 (by decide)
  have hd := hd.2 (by decide)
  obtain rfl := ha.1 (by decide)
  obtain rfl := hb.1 (by decide)
  have hm := hm.2 (by decide)
  obtain rfl := ht.1 (by decide)
  obtain rfl := hwz (by decide)
  have hE : l ++ insE ⟨5, 0, d, 0, 0, addr, 0, 0, from_⟩ = (((l ++ nuB 5) ++ nuB d) ++ nuB addr) ++ nuB from_ := by
    unfold insE fieldsE
    simp [List.flatMap, kuse, byK, kuses, fieldE]
  rw [hE]
  clear hE
  have hu : K 28 [.tr (tu 5)] [] (.ret (.tup [.tr (tb true), .tr (tb false), .tr (tb true), .tr (tb false)])) [] := z_uses 5
  have nl := fun x => nuB_len x
  have q2 := nuB_len d
  have q16 := nuB_len addr
  have qk := nuB_len 5
  have qf := nuB_len from_
  refine Ctr.new [] hT hmix Tryz.func47 rfl (fun _ _ => by kernel_rfl) rfl fun hok => ?_
  clear hok
  conv => whnf
  refine acall.new [0] [] _ _ _ _ (z_putN (l) 5 (by first | omega | (simp only [List.length_append]; omega))) rfl rfl rfl rfl ⟨⟨rfl, rfl⟩, .inl rfl, trivial⟩ aut rfl rfl fun _ => ?_
  conv => whnf
  refine acall.pure _ (hu) rfl rfl fun _ => ?_
  conv => whnf
  refine acall.new [_] [] _ _ _ _ (z_putN (l ++ nuB 5) d (by first | omega | (simp only [List.length_append]; omega))) rfl rfl rfl rfl ⟨⟨rfl, rfl⟩, .inl rfl, trivial⟩ aut rfl rfl fun _ => ?_
  conv => whnf
  refine acall.new [_] [] _ _ _ _ (z_putN ((l ++ nuB 5) ++ nuB d) addr (by first | omega | (simp only [List.length_append]; omega))) rfl rfl rfl rfl ⟨⟨rfl, rfl⟩, .inl rfl, trivial⟩ aut rfl rfl fun _ => ?_
  conv => whnf
  refine acall.new [_] [] _ _ _ _ (z_putN (((l ++ nuB 5) ++ nuB d) ++ nuB addr) from_ (by first | omega | (simp only [List.length_append]; omega))) rfl rfl rfl rfl ⟨⟨rfl, rfl⟩, .inl rfl, trivial⟩ aut rfl rfl fun _ => ?_
  conv => whnf
  exact ⟨[0, _], rfl, rfl, ⟨rfl, rfl⟩, aut⟩

set_option maxRecDepth 100000 in
theorem z_putI6 {op d a b addr to_ word from_ : Int} (code mem : Int) (hR : RightF ⟨6, op, d, a, b, addr, to_, word, from_⟩ code mem) (l : List UInt8) (hl : l.length ≤ 50000000) :
    K 47 [.sl 0 l.length, (Ins.mk 6 op d a b addr to_ word from_).av] [bytB l] (.ret (.sl 1 (l ++ insE ⟨6, op, d, a, b, addr, to_, word, from_⟩).length)) [none, some (bytB (l ++ insE ⟨6, op, d, a, b, addr, to_, word, from_⟩))] := by
  obtain ⟨hk, hf, ho, hd, ha, hb, hm, ht, hwz⟩ := hR
  simp only at hk hf ho hd ha hb hm ht hwz
  have e : usedM 6 op = 0 := rfl
  rw [e] at ho hd ha hb hm ht hwz
  obtain rfl := ho.1 (by decide)
  obtain rfl := hd.1 (by decide)
  obtain rfl := ha.1 (by decide)
  obtain rfl := hb.1 (by decide)
  obtain rfl := hm.1 (by decide)
  obtain rfl := ht.1 (by decide)
  obtain rfl := hwz (by decide)
  have hE : l ++ insE ⟨6, 0, 0, 0, 0, 0, 0, 0, from_⟩ = (l ++ nuB 6) ++ nuB from_ := by
    unfold insE fieldsE
    simp [List.flatMap, kuse, byK, kuses, fieldE]
  rw [hE]
  clear hE
  have hu : K 28 [.tr (tu 6)] [] (.ret (.tup [.tr (tb false), .tr (tb false), .tr (tb false), .tr (tb false)])) [] := z_uses 6
  have nl := fun x => nuB_len x
  have qk := nuB_len 6
  have qf := nuB_len from_
  refine Ctr.new [] hT hmix Tryz.func47 rfl (fun _ _ => by kernel_rfl) rfl fun hok => ?_
  clear hok
  conv => whnf
  refine acall.new [0] [] _ _ _ _ (z_putN (l) 6 (by first | omega | (simp only [List.length_append]; omega))) rfl rfl rfl rfl ⟨⟨rfl, rfl⟩, .inl rfl, trivial⟩ aut rfl rfl fun _ => ?_
  conv => whnf
  refine acall.pure _ (hu) rfl rfl fun _ => ?_
  conv => whnf
  refine acall.new [_] [] _ _ _ _ (z_putN (l ++ nuB 6) from_ (by first | omega | (simp only [List.length_append]; omega))) rfl rfl rfl rfl ⟨⟨rfl, rfl⟩, .inl rfl, trivial⟩ aut rfl rfl fun _ => ?_
  conv => whnf
  exact ⟨[0, _], rfl, rfl, ⟨rfl, rfl⟩, aut⟩

set_option maxRecDepth 100000 in
theorem z_putI7 {op d a b addr to_ word from_ : Int} (code mem : Int) (hR : RightF ⟨7, op, d, a, b, addr, to_, word, from_⟩ code mem) (l : List UInt8) (hl : l.length ≤ 50000000) :
    K 47 [.sl 0 l.length, (Ins.mk 7 op d a b addr to_ word from_).av] [bytB l] (.ret (.sl 1 (l ++ insE ⟨7, op, d, a, b, addr, to_, word, from_⟩).length)) [none, some (bytB (l ++ insE ⟨7, op, d, a, b, addr, to_, word, from_⟩))] := by
  obtain ⟨hk, hf, ho, hd, ha, hb, hm, ht, hwz⟩ := hR
  simp only at hk hf ho hd ha hb hm ht hwz
  have e : usedM 7 op = 4 := rfl
  rw [e] at ho hd ha hb hm ht hwz
  obtain rfl := ho.1 (by decide)
  obtain rfl := hd.1 (by decide)
  have ha := ha.2 (by decide)
  obtain rfl := hb.1 (by decide)
  obtain rfl := hm.1 (by decide)
  obtain rfl := ht.1 (by decide)
  obtain rfl := hwz (by decide)
  have hE : l ++ insE ⟨7, 0, 0, a, 0, 0, 0, 0, from_⟩ = ((l ++ nuB 7) ++ nuB a) ++ nuB from_ := by
    unfold insE fieldsE
    simp [List.flatMap, kuse, byK, kuses, fieldE]
  rw [hE]
  clear hE
  have hu : K 28 [.tr (tu 7)] [] (.ret (.tup [.tr (tb false), .tr (tb true), .tr (tb false), .tr (tb false)])) [] := z_uses 7
  have nl := fun x => nuB_len x
  have q4 := nuB_len a
  have qk := nuB_len 7
  have qf := nuB_len from_
  refine Ctr.new [] hT hmix Tryz.func47 rfl (fun _ _ => by kernel_rfl) rfl fun hok => ?_
  clear hok
  conv => whnf
  refine acall.new [0] [] _ _ _ _ (z_putN (l) 7 (by first | omega | (simp only [List.length_append]; omega))) rfl rfl rfl rfl ⟨⟨rfl, rfl⟩, .inl rfl, trivial⟩ aut rfl rfl fun _ => ?_
  conv => whnf
  refine acall.pure _ (hu) rfl rfl fun _ => ?_
  conv => whnf
  refine acall.new [_] [] _ _ _ _ (z_putN (l ++ nuB 7) a (by first | omega | (simp only [List.length_append]; omega))) rfl rfl rfl rfl ⟨⟨rfl, rfl⟩, .inl rfl, trivial⟩ aut rfl rfl fun _ => ?_
  conv => whnf
  refine acall.new [_] [] _ _ _ _ (z_putN ((l ++ nuB 7) ++ nuB a) from_ (by first | omega | (simp only [List.length_append]; omega))) rfl rfl rfl rfl ⟨⟨rfl, rfl⟩, .inl rfl, trivial⟩ aut rfl rfl fun _ => ?_
  conv => whnf
  exact ⟨[0, _], rfl, rfl, ⟨rfl, rfl⟩, aut⟩

set_option maxRecDepth 100000 in
theorem z_putI8 {op d a b addr to_ word from_ : Int} (code mem : Int) (hR : RightF ⟨8, op, d, a, b, addr, to_, word, from_⟩ code mem) (l : List UInt8) (hl : l.length ≤ 50000000) :
    K 47 [.sl 0 l.length, (Ins.mk 8 op d a b addr to_ word from_).av] [bytB l] (.ret (.sl 1 (l ++ insE ⟨8, op, d, a, b, addr, to_, word, from_⟩).length)) [none, some (bytB (l ++ insE ⟨8, op, d, a, b, addr, to_, word, from_⟩))] := by
  obtain ⟨hk, hf, ho, hd, ha, hb, hm, ht, hwz⟩ := hR
  simp only at hk hf ho hd ha hb hm ht hwz
  have e : usedM 8 op = 32 := rfl
  rw [e] at ho hd ha hb hm ht hwz
  obtain rfl := ho.1 (by decide)
  obtain rfl := hd.1 (by decide)
  obtain rfl := ha.1 (by decide)
  obtain rfl := hb.1 (by decide)
  obtain rfl := hm.1 (by decide)
  have ht := ht.2 (by decide)
  obtain rfl := hwz (by decide)
  have hE : l ++ insE ⟨8, 0, 0, 0, 0, 0, to_, 0, from_⟩ = ((l ++ nuB 8) ++ nuB to_) ++ nuB from_ := by
    unfold insE fieldsE
    simp [List.flatMap, kuse, byK, kuses, fieldE]
  rw [hE]
  clear hE
  have hu : K 28 [.tr (tu 8)] [] (.ret (.tup [.tr (tb false), .tr (tb false), .tr (tb false), .tr (tb true)])) [] := z_uses 8
  have nl := fun x => nuB_len x
  have q32 := nuB_len to_
  have qk := nuB_len 8
  have qf := nuB_len from_
  refine Ctr.new [] hT hmix Tryz.func47 rfl (fun _ _ => by kernel_rfl) rfl fun hok => ?_
  clear hok
  conv => whnf
  refine acall.new [0] [] _ _ _ _ (z_putN (l) 8 (by first | omega | (simp only [List.length_append]; omega))) rfl rfl rfl rfl ⟨⟨rfl, rfl⟩, .inl rfl, trivial⟩ aut rfl rfl fun _ => ?_
  conv => whnf
  refine acall.pure _ (hu) rfl rfl fun _ => ?_
  conv => whnf
  refine acall.new [_] [] _ _ _ _ (z_putN (l ++ nuB 8) to_ (by first | omega | (simp only [List.length_append]; omega))) rfl rfl rfl rfl ⟨⟨rfl, rfl⟩, .inl rfl, trivial⟩ aut rfl rfl fun _ => ?_
  conv => whnf
  refine acall.new [_] [] _ _ _ _ (z_putN ((l ++ nuB 8) ++ nuB to_) from_ (by first | omega | (simp only [List.length_append]; omega))) rfl rfl rfl rfl ⟨⟨rfl, rfl⟩, .inl rfl, trivial⟩ aut rfl rfl fun _ => ?_
  conv => whnf
  exact ⟨[0, _], rfl, rfl, ⟨rfl, rfl⟩, aut⟩

set_option maxRecDepth 100000 in
theorem z_putI9 {op d a b addr to_ word from_ : Int} (code mem : Int) (hR : RightF ⟨9, op, d, a, b, addr, to_, word, from_⟩ code mem) (l : List UInt8) (hl : l.length ≤ 50000000) :
    K 47 [.sl 0 l.length, (Ins.mk 9 op d a b addr to_ word from_).av] [bytB l] (.ret (.sl 1 (l ++ insE ⟨9, op, d, a, b, addr, to_, word, from_⟩).length)) [none, some (bytB (l ++ insE ⟨9, op, d, a, b, addr, to_, word, from_⟩))] := by
  obtain ⟨hk, hf, ho, hd, ha, hb, hm, ht, hwz⟩ := hR
  simp only at hk hf ho hd ha hb hm ht hwz
  have e : usedM 9 op = 36 := rfl
  rw [e] at ho hd ha hb hm ht hwz
  obtain rfl := ho.1 (by decide)
  obtain rfl := hd.1 (by decide)
  have ha := ha.2 (by decide)
  obtain rfl := hb.1 (by decide)
  obtain rfl := hm.1 (by decide)
  have ht := ht.2 (by decide)
  obtain rfl := hwz (by decide)
  have hE : l ++ insE ⟨9, 0, 0, a, 0, 0, to_, 0, from_⟩ = (((l ++ nuB 9) ++ nuB a) ++ nuB to_) ++ nuB from_ := by
    unfold insE fieldsE
    simp [List.flatMap, kuse, byK, kuses, fieldE]
  rw [hE]
  clear hE
  have hu : K 28 [.tr (tu 9)] [] (.ret (.tup [.tr (tb false), .tr (tb true), .tr (tb false), .tr (tb true)])) [] := z_uses 9
  have nl := fun x => nuB_len x
  have q4 := nuB_len a
  have q32 := nuB_len to_
  have qk := nuB_len 9
  have qf := nuB_len from_
  refine Ctr.new [] hT hmix Tryz.func47 rfl (fun _ _ => by kernel_rfl) rfl fun hok => ?_
  clear hok
  conv => whnf
  refine acall.new [0] [] _ _ _ _ (z_putN (l) 9 (by first | omega | (simp only [List.length_append]; omega))) rfl rfl rfl rfl ⟨⟨rfl, rfl⟩, .inl rfl, trivial⟩ aut rfl rfl fun _ => ?_
  conv => whnf
  refine acall.pure _ (hu) rfl rfl fun _ => ?_
  conv => whnf
  refine acall.new [_] [] _ _ _ _ (z_putN (l ++ nuB 9) a (by first | omega | (simp only [List.length_append]; omega))) rfl rfl rfl rfl ⟨⟨rfl, rfl⟩, .inl rfl, trivial⟩ aut rfl rfl fun _ => ?_
  conv => whnf
  refine acall.new [_] [] _ _ _ _ (z_putN ((l ++ nuB 9) ++ nuB a) to_ (by first | omega | (simp only [List.length_append]; omega))) rfl rfl rfl rfl ⟨⟨rfl, rfl⟩, .inl rfl, trivial⟩ aut rfl rfl fun _ => ?_
  conv => whnf
  refine acall.new [_] [] _ _ _ _ (z_putN (((l ++ nuB 9) ++ nuB a) ++ nuB to_) from_ (by first | omega | (simp only [List.length_append]; omega))) rfl rfl rfl rfl ⟨⟨rfl, rfl⟩, .inl rfl, trivial⟩ aut rfl rfl fun _ => ?_
  conv => whnf
  exact ⟨[0, _], rfl, rfl, ⟨rfl, rfl⟩, aut⟩

set_option maxRecDepth 100000 in
theorem z_putI10 {op d a b addr to_ word from_ : Int} (code mem : Int) (hR : RightF ⟨10, op, d, a, b, addr, to_, word, from_⟩ code mem) (l : List UInt8) (hl : l.length ≤ 50000000) :
    K 47 [.sl 0 l.length, (Ins.mk 10 op d a b addr to_ word from_).av] [bytB l] (.ret (.sl 1 (l ++ insE ⟨10, op, d, a, b, addr, to_, word, from_⟩).length)) [none, some (bytB (l ++ insE ⟨10, op, d, a, b, addr, to_, word, from_⟩))] := by
  obtain ⟨hk, hf, ho, hd, ha, hb, hm, ht, hwz⟩ := hR
  simp only at hk hf ho hd ha hb hm ht hwz
  have e : usedM 10 op = 0 := rfl
  rw [e] at ho hd ha hb hm ht hwz
  obtain rfl := ho.1 (by decide)
  obtain rfl := hd.1 (by decide)
  obtain rfl := ha.1 (by decide)
  obtain rfl := hb.1 (by decide)
  obtain rfl := hm.1 (by decide)
  obtain rfl := ht.1 (by decide)
  obtain rfl := hwz (by decide)
  have hE : l ++ insE ⟨10, 0, 0, 0, 0, 0, 0, 0, from_⟩ = (l ++ nuB 10) ++ nuB from_ := by
    unfold insE fieldsE
    simp [List.flatMap, kuse, byK, kuses, fieldE]
  rw [hE]
  clear hE
  have hu : K 28 [.tr (tu 10)] [] (.ret (.tup [.tr (tb false), .tr (tb false), .tr (tb false), .tr (tb false)])) [] := z_uses 10
  have nl := fun x => nuB_len x
  have qk := nuB_len 10
  have qf := nuB_len from_
  refine Ctr.new [] hT hmix Tryz.func47 rfl (fun _ _ => by kernel_rfl) rfl fun hok => ?_
  clear hok
  conv => whnf
  refine acall.new [0] [] _ _ _ _ (z_putN (l) 10 (by first | omega | (simp only [List.length_append]; omega))) rfl rfl rfl rfl ⟨⟨rfl, rfl⟩, .inl rfl, trivial⟩ aut rfl rfl fun _ => ?_
  conv => whnf
  refine acall.pure _ (hu) rfl rfl fun _ => ?_
  conv => whnf
  refine acall.new [_] [] _ _ _ _ (z_putN (l ++ nuB 10) from_ (by first | omega | (simp only [List.length_append]; omega))) rfl rfl rfl rfl ⟨⟨rfl, rfl⟩, .inl rfl, trivial⟩ aut rfl rfl fun _ => ?_
  conv => whnf
  exact ⟨[0, _], rfl, rfl, ⟨rfl, rfl⟩, aut⟩

set_option maxRecDepth 100000 in
theorem z_putI2t {op d a b addr to_ word from_ : Int} (h2 : two op = true) (code mem : Int) (hR : RightF ⟨2, op, d, a, b, addr, to_, word, from_⟩ code mem) (l : List UInt8) (hl : l.length ≤ 50000000) :
    K 47 [.sl 0 l.length, (Ins.mk 2 op d a b addr to_ word from_).av] [bytB l] (.ret (.sl 1 (l ++ insE ⟨2, op, d, a, b, addr, to_, word, from_⟩).length)) [none, some (bytB (l ++ insE ⟨2, op, d, a, b, addr, to_, word, from_⟩))] := by
  obtain ⟨hk, hf, ho, hd, ha, hb, hm, ht, hwz⟩ := hR
  simp only at hk hf ho hd ha hb hm ht hwz
  have e : usedM 2 op = 15 := by unfold usedM; rw [h2]; rfl
  rw [e] at ho hd ha hb hm ht hwz
  have ho := ho.2 (by decide)
  have hd := hd.2 (by decide)
  have ha := ha.2 (by decide)
  have hb := hb.2 (by decide)
  obtain rfl := hm.1 (by decide)
  obtain rfl := ht.1 (by decide)
  obtain rfl := hwz (by decide)
  have hE : l ++ insE ⟨2, op, d, a, b, 0, 0, 0, from_⟩ = (((((l ++ nuB 2) ++ nuB op) ++ nuB d) ++ nuB a) ++ nuB b) ++ nuB from_ := by
    unfold insE fieldsE
    simp [h2, List.flatMap, kuse, byK, kuses, fieldE]
  rw [hE]
  clear hE
  have hu : K 28 [.tr (tu 2)] [] (.ret (.tup [.tr (tb true), .tr (tb true), .tr (tb false), .tr (tb false)])) [] := z_uses 2
  have htw := z_two op
  rw [h2] at htw
  have nl := fun x => nuB_len x
  have q1 := nuB_len op
  have q2 := nuB_len d
  have q4 := nuB_len a
  have q8 := nuB_len b
  have qk := nuB_len 2
  have qf := nuB_len from_
  refine Ctr.new [] hT hmix Tryz.func47 rfl (fun _ _ => by kernel_rfl) rfl fun hok => ?_
  clear hok
  conv => whnf
  refine acall.new [0] [] _ _ _ _ (z_putN (l) 2 (by first | omega | (simp only [List.length_append]; omega))) rfl rfl rfl rfl ⟨⟨rfl, rfl⟩, .inl rfl, trivial⟩ aut rfl rfl fun _ => ?_
  conv => whnf
  refine acall.pure _ (hu) rfl rfl fun _ => ?_
  conv => whnf
  refine acall.new [_] [] _ _ _ _ (z_putN (l ++ nuB 2) op (by first | omega | (simp only [List.length_append]; omega))) rfl rfl rfl rfl ⟨⟨rfl, rfl⟩, .inl rfl, trivial⟩ aut rfl rfl fun _ => ?_
  conv => whnf
  refine acall.new [_] [] _ _ _ _ (z_putN ((l ++ nuB 2) ++ nuB op) d (by first | omega | (simp only [List.length_append]; omega))) rfl rfl rfl rfl ⟨⟨rfl, rfl⟩, .inl rfl, trivial⟩ aut rfl rfl fun _ => ?_
  conv => whnf
  refine acall.new [_] [] _ _ _ _ (z_putN (((l ++ nuB 2) ++ nuB op) ++ nuB d) a (by first | omega | (simp only [List.length_append]; omega))) rfl rfl rfl rfl ⟨⟨rfl, rfl⟩, .inl rfl, trivial⟩ aut rfl rfl fun _ => ?_
  conv => whnf
  refine acall.pure _ (htw) rfl rfl fun _ => ?_
  conv => whnf
  refine acall.new [_] [] _ _ _ _ (z_putN ((((l ++ nuB 2) ++ nuB op) ++ nuB d) ++ nuB a) b (by first | omega | (simp only [List.length_append]; omega))) rfl rfl rfl rfl ⟨⟨rfl, rfl⟩, .inl rfl, trivial⟩ aut rfl rfl fun _ => ?_
  conv => whnf
  refine acall.new [_] [] _ _ _ _ (z_putN (((((l ++ nuB 2) ++ nuB op) ++ nuB d) ++ nuB a) ++ nuB b) from_ (by first | omega | (simp only [List.length_append]; omega))) rfl rfl rfl rfl ⟨⟨rfl, rfl⟩, .inl rfl, trivial⟩ aut rfl rfl fun _ => ?_
  conv => whnf
  exact ⟨[0, _], rfl, rfl, ⟨rfl, rfl⟩, aut⟩

set_option maxRecDepth 100000 in
theorem z_putI2f {op d a b addr to_ word from_ : Int} (h2 : two op = false) (code mem : Int) (hR : RightF ⟨2, op, d, a, b, addr, to_, word, from_⟩ code mem) (l : List UInt8) (hl : l.length ≤ 50000000) :
    K 47 [.sl 0 l.length, (Ins.mk 2 op d a b addr to_ word from_).av] [bytB l] (.ret (.sl 1 (l ++ insE ⟨2, op, d, a, b, addr, to_, word, from_⟩).length)) [none, some (bytB (l ++ insE ⟨2, op, d, a, b, addr, to_, word, from_⟩))] := by
  obtain ⟨hk, hf, ho, hd, ha, hb, hm, ht, hwz⟩ := hR
  simp only at hk hf ho hd ha hb hm ht hwz
  have e : usedM 2 op = 7 := by unfold usedM; rw [h2]; rfl
  rw [e] at ho hd ha hb hm ht hwz
  have ho := ho.2 (by decide)
  have hd := hd.2 (by decide)
  have ha := ha.2 (by decide)
  obtain rfl := hb.1 (by decide)
  obtain rfl := hm.1 (by decide)
  obtain rfl := ht.1 (by decide)
  obtain rfl := hwz (by decide)
  have hE : l ++ insE ⟨2, op, d, a, 0, 0, 0, 0, from_⟩ = ((((l ++ nuB 2) ++ nuB op) ++ nuB d) ++ nuB a) ++ nuB from_ := by
    unfold insE fieldsE
    simp [h2, List.flatMap, kuse, byK, kuses, fieldE]
  rw [hE]
  clear hE
  have hu : K 28 [.tr (tu 2)] [] (.ret (.tup [.tr (tb true), .tr (tb true), .tr (tb false), .tr (tb false)])) [] := z_uses 2
  have htw := z_two op
  rw [h2] at htw
  have nl := fun x => nuB_len x
  have q1 := nuB_len op
  have q2 := nuB_len d
  have q4 := nuB_len a
  have qk := nuB_len 2
  have qf := nuB_len from_
  refine Ctr.new [] hT hmix Tryz.func47 rfl (fun _ _ => by kernel_rfl) rfl fun hok => ?_
  clear hok
  conv => whnf
  refine acall.new [0] [] _ _ _ _ (z_putN (l) 2 (by first | omega | (simp only [List.length_append]; omega))) rfl rfl rfl rfl ⟨⟨rfl, rfl⟩, .inl rfl, trivial⟩ aut rfl rfl fun _ => ?_
  conv => whnf
  refine acall.pure _ (hu) rfl rfl fun _ => ?_
  conv => whnf
  refine acall.new [_] [] _ _ _ _ (z_putN (l ++ nuB 2) op (by first | omega | (simp only [List.length_append]; omega))) rfl rfl rfl rfl ⟨⟨rfl, rfl⟩, .inl rfl, trivial⟩ aut rfl rfl fun _ => ?_
  conv => whnf
  refine acall.new [_] [] _ _ _ _ (z_putN ((l ++ nuB 2) ++ nuB op) d (by first | omega | (simp only [List.length_append]; omega))) rfl rfl rfl rfl ⟨⟨rfl, rfl⟩, .inl rfl, trivial⟩ aut rfl rfl fun _ => ?_
  conv => whnf
  refine acall.new [_] [] _ _ _ _ (z_putN (((l ++ nuB 2) ++ nuB op) ++ nuB d) a (by first | omega | (simp only [List.length_append]; omega))) rfl rfl rfl rfl ⟨⟨rfl, rfl⟩, .inl rfl, trivial⟩ aut rfl rfl fun _ => ?_
  conv => whnf
  refine acall.pure _ (htw) rfl rfl fun _ => ?_
  conv => whnf
  refine acall.new [_] [] _ _ _ _ (z_putN ((((l ++ nuB 2) ++ nuB op) ++ nuB d) ++ nuB a) from_ (by first | omega | (simp only [List.length_append]; omega))) rfl rfl rfl rfl ⟨⟨rfl, rfl⟩, .inl rfl, trivial⟩ aut rfl rfl fun _ => ?_
  conv => whnf
  exact ⟨[0, _], rfl, rfl, ⟨rfl, rfl⟩, aut⟩

theorem z_putInstr (i : Ins) {code mem : Int} (hr : rightB i code mem = true) (l : List UInt8) (hl : l.length ≤ 50000000) :
    K 47 [.sl 0 l.length, i.av] [bytB l] (.ret (.sl 1 (l ++ insE i).length)) [none, some (bytB (l ++ insE i))] := by
  have hR := right_inv hr
  have hk := hR.kind
  obtain ⟨kind, op, d, a, b, addr, to_, word, from_⟩ := i
  simp only at hk
  have hc : kind = 1 ∨ kind = 2 ∨ kind = 3 ∨ kind = 4 ∨ kind = 5 ∨ kind = 6 ∨ kind = 7 ∨ kind = 8 ∨ kind = 9 ∨ kind = 10 := by omega
  clear hk hr
  rcases hc with rfl | rfl | rfl | rfl | rfl | rfl | rfl | rfl | rfl | rfl
  · exact z_putI1 _ _ hR l hl
  · cases h2 : two op
    · exact z_putI2f h2 _ _ hR l hl
    · exact z_putI2t h2 _ _ hR l hl
  · exact z_putI3 _ _ hR l hl
  · exact z_putI4 _ _ hR l hl
  · exact z_putI5 _ _ hR l hl
  · exact z_putI6 _ _ hR l hl
  · exact z_putI7 _ _ hR l hl
  · exact z_putI8 _ _ hR l hl
  · exact z_putI9 _ _ hR l hl
  · exact z_putI10 _ _ hR l hl
end Go.Proofs.YtffhoknkfohfgaaGreatDoor.am

namespace Go.Proofs.YtffhoknkfohfgaaGreatDoor.am
open Go Go.Proofs
theorem z_encode0 (o : Ob) (h : (checkO o).1 ≠ 0) : K 19 [o.av] [] (.ret (.tup [.tr (.v (.slice none 0 0)), .tr (ti (checkO o).1)])) [] := by
  refine Ctr.new [] hT hmix Tryz.func19 rfl (fun _ _ => by kernel_rfl) rfl fun hok => ?_
  clear hok
  have hc := z_check o
  generalize checkO o = Q at hc h ⊢
  obtain ⟨memory, shared, locks, buffer, cores⟩ := o
  obtain ⟨q1, q2, q3⟩ := Q
  conv => whnf
  refine acall.pure _ (hc) rfl rfl fun _ => ?_
  conv => whnf
  refine csplit (fun h1 => ?_) (fun h1 => ?_)
  · conv => whnf
    exact ⟨[], rfl, rfl, aut⟩
  · exact absurd (by simpa using h1) h
set_option maxRecDepth 100000 in
set_option maxHeartbeats 2000000 in
theorem z_encode (o : Ob) (h : (checkO o).1 = 0) : K 19 [o.av] [] (.ret (.tup [.sl 0 (encB o).length, .tr (ti 0)])) [some (bytB (encB o))] := by
  have hG := check_good h
  refine Ctr.new [] hT hmix Tryz.func19 rfl (fun _ _ => by kernel_rfl) rfl fun hok => ?_
  have hc := z_check o
  rw [checkO_zero h] at hc
  obtain ⟨memory, shared, locks, buffer, cores⟩ := o
  have hml : memory.length ≤ 9223372036854775807 := by have := hG.mem; simp only at this; omega
  have hcl8 : cores.length ≤ 8 := hG.cores
  have hcl8' : cores.length ≤ 9223372036854775807 := by omega
  have hm4 : memory.length ≤ 4096 := hG.mem
  clear hok
  generalize hE : encB ⟨memory, shared, locks, buffer, cores⟩ = E
  have n1 := nuB_len shared
  have n2 := nuB_len locks
  have n3 := nuB_len buffer
  have n4 := nuB_len memory.length
  have n5 := nuB_len cores.length
  have nm : magicL.length = 4 := rfl
  conv => whnf
  refine acall.pure _ (hc) rfl rfl fun _ => ?_
  conv => whnf
  refine acall.new [_] [] _ _ _ _ (z_putN magicL shared (by omega)) rfl rfl rfl rfl ⟨⟨rfl, rfl⟩, .inl rfl, trivial⟩ aut rfl rfl fun _ => ?_
  conv => whnf
  refine acall.new [_] [] _ _ _ _ (z_putN (magicL ++ nuB shared) locks (by simp only [List.length_append]; omega)) rfl rfl rfl rfl ⟨⟨rfl, rfl⟩, .inl rfl, trivial⟩ aut rfl rfl fun _ => ?_
  conv => whnf
  refine acall.new [_] [] _ _ _ _ (z_putN (magicL ++ nuB shared ++ nuB locks) buffer (by simp only [List.length_append]; omega)) rfl rfl rfl rfl ⟨⟨rfl, rfl⟩, .inl rfl, trivial⟩ aut rfl rfl fun _ => ?_
  conv => whnf
  refine acall.new [_] [] _ _ _ _ (z_putN (magicL ++ nuB shared ++ nuB locks ++ nuB buffer) memory.length (by simp only [List.length_append]; omega)) rfl rfl rfl rfl ⟨⟨rfl, rfl⟩, .inl (by simp), trivial⟩ aut rfl rfl fun _ => ?_
  conv => whnf
  refine LoopL.by (fun x : List UInt8 × Nat => ⟨[(1, .ptr 0 0), (7, .sl 1 x.1.length), (8, .tr (ti x.2))],
      [(0, .cells 29 [.tr (intsT memory), .tr (ti shared), .tr (ti locks), .tr (ti buffer), .tr (coresT cores)]), (1, bytB x.1)], 10⟩)
    (fun x => x.2 ≤ memory.length ∧ E = x.1 ++ ((memory.drop x.2).flatMap wrdB ++ (nuB cores.length ++ cores.flatMap coreE)) ∧ x.1.length ≤ 44 + 10 * x.2) (fun x => memory.length - x.2)
    (magicL ++ nuB shared ++ nuB locks ++ nuB buffer ++ nuB memory.length, 0) [0, _] [] (Sub.mk' rfl ⟨⟨rfl, rfl⟩, ⟨rfl, rfl⟩, .inl rfl, trivial⟩ aut rfl rfl) ⟨Nat.zero_le _, ?_, ?_⟩ ?_
  · rw [← hE]; simp only [encB, headE, List.append_assoc, List.drop_zero]
  · simp only [List.length_append]; omega
  rintro ⟨l, i⟩ ⟨hi, hf, hlen⟩ -
  simp only at hi hf hlen
  conv => whnf
  refine csplit (fun hlt => ?_) (fun hge => ?_)
  · have hlt : i < memory.length := by simpa using hlt
    conv => whnf
    refine ⟨rfl, by omega, by simpa using hlt, fun row hrow => ?_⟩
    obtain ⟨x, hx, rfl⟩ := map_get hrow
    replace hx : memory[i]? = some x := hx
    rw [drop_cons hx] at hf
    conv => whnf
    refine acall.new [1] [] _ _ _ _ (z_putWord l x (by omega)) rfl rfl rfl rfl aut aut rfl rfl fun _ => ?_
    conv => whnf
    refine ⟨(l ++ wrdB x, i + 1), [0, _], [], Sub.mk' rfl ⟨⟨rfl, rfl⟩, ⟨rfl, rfl⟩, .inl (ti_succ hlt hml), trivial⟩ aut rfl rfl, ⟨by omega, ?_, ?_⟩, by simp only; omega⟩
    · rw [hf]; simp only [List.flatMap_cons, List.append_assoc]
    · have := wrdB_len x; simp only [List.length_append]; omega
  have hge : memory.length ≤ i := by simpa using hge
  rw [List.drop_eq_nil_of_le hge] at hf
  conv => whnf
  refine ⟨fun _ => ?_, fun h => absurd rfl h⟩
  conv => whnf
  refine acall.new [1] [] _ _ _ _ (z_putN l cores.length (by omega)) rfl rfl rfl rfl ⟨⟨rfl, rfl⟩, .inl (by simp), trivial⟩ aut rfl rfl fun _ => ?_
  conv => whnf
  refine LoopL.by (fun x : List UInt8 × Nat => ⟨[(1, .ptr 0 0), (7, .sl 1 x.1.length), (9, .tr (ti x.2))],
      [(0, .cells 29 [.tr (intsT memory), .tr (ti shared), .tr (ti locks), .tr (ti buffer), .tr (coresT cores)]), (1, bytB x.1)], 10⟩)
    (fun x => x.2 ≤ cores.length ∧ E = x.1 ++ (cores.drop x.2).flatMap coreE ∧ x.1.length ≤ 50000 + 1200000 * x.2) (fun x => cores.length - x.2)
    (l ++ nuB cores.length, 0) [0, _] [] (Sub.mk' rfl ⟨⟨rfl, rfl⟩, ⟨rfl, rfl⟩, .inl rfl, trivial⟩ aut rfl rfl) ⟨Nat.zero_le _, ?_, ?_⟩ ?_
  · rw [hf]; simp
  · simp only [List.length_append]; omega
  clear hf hlen
  rintro ⟨l, k⟩ ⟨hk, hf, hlen⟩ -
  simp only at hk hf hlen
  conv => whnf
  refine csplit (fun hlt => ?_) (fun hge => ?_)
  · have hlt : k < cores.length := by simpa using hlt
    conv => whnf
    refine ⟨rfl, by omega, by simpa using hlt, fun row hrow => ?_⟩
    obtain ⟨c, hd, rfl⟩ := map_get hrow
    replace hd : cores[k]? = some c := hd
    rw [drop_cons hd] at hf
    have hmem := List.mem_of_getElem? hd
    have hnl := name_le (hG.name c hmem)
    have hcd := hG.code c hmem
    have hrt := hG.right c hmem
    obtain ⟨cn, cc⟩ := c
    simp only at hnl hcd hrt
    have hcl : cc.length ≤ 9223372036854775807 := by omega
    have m1 := nuB_len cn.size
    have m2 := nuB_len cc.length
    have m3 := dat_len cn
    conv => whnf
    refine acall.new [1] [] _ _ _ _ (z_putN l cn.size (by omega)) rfl rfl rfl rfl aut aut rfl rfl fun _ => ?_
    conv => whnf
    refine ⟨rfl, rfl, rfl, by simp [brows], (show (l ++ nuB cn.size).length + cn.size ≤ _ by simp only [List.length_append]; omega), ?_⟩
    conv => whnf
    refine acall.new [_] [] _ _ _ _ (z_putN (l ++ nuB cn.size ++ cn.data.toList) cc.length (by simp only [List.length_append]; omega)) rfl rfl rfl rfl ⟨⟨rfl, by simp [Nat.add_assoc]⟩, .inl (by simp), trivial⟩ ⟨⟨rfl, rfl, rfl, take_app _ _⟩, trivial⟩ rfl rfl fun _ => ?_
    conv => whnf
    refine LoopL.by (fun x : List UInt8 × Nat => ⟨[(1, .ptr 0 0), (7, .sl 1 x.1.length), (9, .tr (ti k)), (10, .ptr 2 0), (11, .tr (ti x.2))],
        [(0, .cells 29 [.tr (intsT memory), .tr (ti shared), .tr (ti locks), .tr (ti buffer), .tr (coresT cores)]), (1, bytB x.1), (2, .cells 63 [.tr (ts cn), .tr (codeT cc)])], 10⟩)
      (fun x => x.2 ≤ cc.length ∧ E = x.1 ++ ((cc.drop x.2).flatMap insE ++ (cores.drop (k + 1)).flatMap coreE) ∧ x.1.length ≤ 60000 + 1200000 * k + 60 * x.2) (fun x => cc.length - x.2)
      (l ++ nuB cn.size ++ cn.data.toList ++ nuB cc.length, 0) [0, _, _] [] (Sub.mk' rfl ⟨⟨rfl, rfl⟩, ⟨rfl, rfl⟩, .inl rfl, ⟨rfl, rfl⟩, .inl rfl, trivial⟩ aut rfl rfl) ⟨Nat.zero_le _, ?_, ?_⟩ ?_
    · rw [hf]; simp only [List.flatMap_cons, coreE, List.append_assoc, List.drop_zero]
    · simp only [List.length_append]; omega
    clear hf hlen
    rintro ⟨l, j⟩ ⟨hj, hf, hlen⟩ -
    simp only at hj hf hlen
    conv => whnf
    refine csplit (fun hlt2 => ?_) (fun hge2 => ?_)
    · have hlt2 : j < cc.length := by simpa using hlt2
      conv => whnf
      refine ⟨rfl, by omega, by simpa using hlt2, fun row hrow => ?_⟩
      obtain ⟨i, hx, rfl⟩ := map_get hrow
      replace hx : cc[j]? = some i := hx
      have hmi := List.mem_of_getElem? hx
      have hik := right_kind (hrt i hmi)
      rw [drop_cons hx] at hf
      have hfl := fieldsE_len i hik
      have hnk := nuB_len i.kind
      have hnf := nuB_len i.from_
      have hq := z_putInstr i (hrt i hmi) l (by omega)
      have hlE : (insE i).length ≤ 60 := by unfold insE; simp only [List.length_append]; omega
      obtain ⟨i1, i2, i3, i4, i5, i6, i7, i8, i9⟩ := i
      have hcons : ((⟨i1, i2, i3, i4, i5, i6, i7, i8, i9⟩ : Ins) :: cc.drop (j + 1)).flatMap insE = insE ⟨i1, i2, i3, i4, i5, i6, i7, i8, i9⟩ ++ (cc.drop (j + 1)).flatMap insE := rfl
      rw [hcons] at hf
      clear hcons
      generalize insE ⟨i1, i2, i3, i4, i5, i6, i7, i8, i9⟩ = I at hq hlE hf
      conv => whnf
      refine acall.new [1] [] _ _ _ _ hq rfl rfl rfl rfl aut aut rfl rfl fun _ => ?_
      conv => whnf
      refine ⟨(l ++ I, j + 1), [0, _, 2], [], Sub.mk' rfl ⟨⟨rfl, rfl⟩, ⟨rfl, rfl⟩, .inl rfl, ⟨rfl, rfl⟩, .inl (ti_succ hlt2 hcl), trivial⟩ aut rfl rfl, ⟨by omega, ?_, ?_⟩, by simp only; omega⟩
      · rw [hf]; simp only [List.append_assoc]
      · simp only [List.length_append]; omega
    have hge2 : cc.length ≤ j := by simpa using hge2
    rw [List.drop_eq_nil_of_le hge2] at hf
    conv => whnf
    refine ⟨fun _ => ?_, fun h => absurd rfl h⟩
    conv => whnf
    refine ⟨(l, k + 1), [0, 1], [], Sub.mk' rfl ⟨⟨rfl, rfl⟩, ⟨rfl, rfl⟩, .inl (ti_succ hlt hcl8'), trivial⟩ aut rfl rfl, ⟨by omega, ?_, ?_⟩, by simp only; omega⟩
    · rw [hf]; simp
    · simp only; omega
  have hge : cores.length ≤ k := by simpa using hge
  rw [List.drop_eq_nil_of_le hge] at hf
  obtain rfl : E = l := by rw [hf]; simp
  conv => whnf
  refine ⟨fun _ => ?_, fun h => absurd rfl h⟩
  conv => whnf
  exact ⟨[1], rfl, rfl, aut⟩
end Go.Proofs.YtffhoknkfohfgaaGreatDoor.am

namespace Go.Proofs.YtffhoknkfohfgaaGreatDoor.am
open Go Go.Proofs
/-- the reader: what it reads, where it stands, whether it met what is none -/
structure Rz where
  b : List UInt8
  at_ : Nat
  bad : Bool
abbrev Rz.blk (r : Rz) : Blk := .cells 91 [.tr (bytT r.b), .tr (ti r.at_), .tr (tb r.bad)]
def shlZ (c : UInt8) (k : Nat) : Int := IntKind.u64.wrap (IntKind.u64.wrap (IntKind.u8.wrap ((BitVec.ofInt IntKind.u8.bits (c.toNat : Int) &&& BitVec.ofInt IntKind.u8.bits 127).toNat : Int)) * 2 ^ (min (IntKind.u64.wrap (IntKind.i64.wrap (7 * (k : Int)))).toNat IntKind.u64.bits))
def numZ : Nat → Nat → Int → Rz → Int × Rz
  | 0, _, _, r => (0, ⟨r.b, r.at_, true⟩)
  | f + 1, k, n, r => match r.b[r.at_]? with
    | none => (0, ⟨r.b, r.at_, true⟩)
    | some c => bif ((k : Int) == 9) && decide ((c.toNat : Int) > 1) then (0, ⟨r.b, r.at_ + 1, true⟩)
      else bif decide ((c.toNat : Int) < 128) then (orI n (shlZ c k), ⟨r.b, r.at_ + 1, bif ((c.toNat : Int) == 0) && decide ((k : Int) > 0) then true else r.bad⟩)
      else numZ f (k + 1) (orI n (shlZ c k)) ⟨r.b, r.at_ + 1, r.bad⟩
theorem numZ_at {f k : Nat} {n : Int} {b : List UInt8} {a : Nat} {bad : Bool} {c : UInt8} (h : b[a]? = some c) : numZ (f + 1) k n ⟨b, a, bad⟩ = bif ((k : Int) == 9) && decide ((c.toNat : Int) > 1) then (0, ⟨b, a + 1, true⟩)
      else bif decide ((c.toNat : Int) < 128) then (orI n (shlZ c k), ⟨b, a + 1, bif ((c.toNat : Int) == 0) && decide ((k : Int) > 0) then true else bad⟩)
      else numZ f (k + 1) (orI n (shlZ c k)) ⟨b, a + 1, bad⟩ := by
  simp only [numZ, h]
theorem numZ_end {f k : Nat} {n : Int} {b : List UInt8} {a : Nat} {bad : Bool} (h : b.length ≤ a) : numZ f k n ⟨b, a, bad⟩ = (0, ⟨b, a, true⟩) := by
  cases f with
  | zero => rfl
  | succ f => simp only [numZ, List.getElem?_eq_none h]
set_option maxRecDepth 100000 in
theorem z_number (r : Rz) (hr : r.at_ ≤ r.b.length) : K 83 [.ptr 0 0] [r.blk] (.ret (.tr (tq (numZ 10 0 0 r).1))) [some (numZ 10 0 0 r).2.blk] := by
  obtain ⟨b, a, bad⟩ := r
  simp only at hr
  generalize hR : numZ 10 0 0 ⟨b, a, bad⟩ = R
  refine Ctr.of hT hmix Tryz.func83 rfl (fun _ _ => by kernel_rfl) rfl fun hok => ?_
  have hll := (hok.cells 0 rfl _ (.head _)).tr.lst.2.1
  rw [brows_len] at hll
  replace hll : b.length ≤ 9223372036854775807 := hll
  clear hok
  conv => whnf
  refine LoopL.by (fun x : Nat × Int × Nat => ⟨[(0, .ptr 0 0), (3, .tr (tq x.2.1)), (4, .tr (ti x.1))], [(0, Rz.blk ⟨b, x.2.2, bad⟩)], 10⟩) (fun x => R = numZ (10 - x.1) x.1 x.2.1 ⟨b, x.2.2, bad⟩ ∧ x.1 ≤ 10 ∧ x.2.2 ≤ b.length) (fun x => 10 - x.1) (0, 0, a) [0] []
    (Sub.au) ⟨hR.symm, Nat.zero_le _, hr⟩ ?_
  clear hR hr
  rintro ⟨k, n, a⟩ ⟨hf, hk10, ha⟩ -
  simp only at hf hk10 ha
  conv => whnf
  refine csplit (fun h1 => ?_) (fun h1 => ?_)
  · have hk : k < 10 := by have := of_decide_eq_true h1; omega
    have hk1 : IntKind.i64.wrap ((k : Int) + 1) = ((k + 1 : Nat) : Int) := by rw [w64 (by omega) (by omega)]; omega
    clear h1
    rw [show 10 - k = (10 - (k + 1)) + 1 by omega] at hf
    conv => whnf
    refine ⟨by kernel_rfl, fun _ => ?_⟩
    conv => whnf
    refine csplit (fun h2 => ?_) (fun h2 => ?_)
    · have hge : b.length ≤ a := by have := of_decide_eq_true h2; rw [brows_len] at this; replace this : (b.length : Int) ≤ (a : Int) := this; omega
      rw [numZ_end hge] at hf
      rw [hf]
      conv => whnf
      exact ⟨.inl rfl, aut⟩
    have hlt : a < b.length := by have := of_decide_eq_false h2; rw [brows_len] at this; replace this : ¬ (b.length : Int) ≤ (a : Int) := this; omega
    clear h2
    have ha1 : IntKind.i64.wrap ((a : Int) + 1) = ((a + 1 : Nat) : Int) := by rw [w64 (by omega) (by omega)]; omega
    conv => whnf
    refine ⟨rfl, by omega, by rw [brows_len]; show (a : Int) < b.length; omega, fun row hrow => ?_⟩
    obtain ⟨c, hc, rfl⟩ := brow_get hrow
    replace hc : b[a]? = some c := hc
    rw [numZ_at hc] at hf
    generalize hO : orI n (shlZ c k) = O at hf
    conv => whnf
    refine ⟨by kernel_rfl, fun _ => ?_⟩
    conv => whnf
    refine csplit (fun a1 => ?_) (fun a1 => ?_)
    · replace a1 : ((k : Int) == 9) = true := a1
      conv => whnf
      refine csplit (fun a2 => ?_) (fun a2 => ?_)
      · replace a2 : decide ((c.toNat : Int) > 1) = true := a2
        rw [a1, a2] at hf
        replace hf : R = (0, ⟨b, a + 1, true⟩) := hf
        rw [hf]
        conv => whnf
        exact ⟨.inl rfl, ⟨rfl, .inl rfl, .inl (congrArg ti ha1), .inl rfl, trivial⟩, trivial⟩
      · replace a2 : decide ((c.toNat : Int) > 1) = false := a2
        rw [a1, a2] at hf
        have good : R = bif decide ((c.toNat : Int) < 128) then (O, ⟨b, a + 1, bif ((c.toNat : Int) == 0) && decide ((k : Int) > 0) then true else bad⟩) else numZ (10 - (k + 1)) (k + 1) O ⟨b, a + 1, bad⟩ := hf
        clear hf
        conv => whnf
        refine ⟨(u64_wrap _).1, ?_⟩
        conv => whnf
        refine csplit (fun h3 => ?_) (fun h3 => ?_)
        · rw [h3] at good
          replace good : R = (O, ⟨b, a + 1, bif ((c.toNat : Int) == 0) && decide ((k : Int) > 0) then true else bad⟩) := good
          conv => whnf
          refine csplit (fun a3 => ?_) (fun a3 => ?_)
          · conv => whnf
            refine csplit (fun a4 => ?_) (fun a4 => ?_)
            · rw [a3, a4] at good
              rw [good]
              conv => whnf
              exact ⟨.inl (congrArg tq hO), ⟨rfl, .inl rfl, .inl (congrArg ti ha1), .inl rfl, trivial⟩, trivial⟩
            · rw [a3, a4] at good
              rw [good]
              conv => whnf
              exact ⟨.inl (congrArg tq hO), ⟨rfl, .inl rfl, .inl (congrArg ti ha1), .inl rfl, trivial⟩, trivial⟩
          · rw [a3] at good
            rw [good]
            conv => whnf
            exact ⟨.inl (congrArg tq hO), ⟨rfl, .inl rfl, .inl (congrArg ti ha1), .inl rfl, trivial⟩, trivial⟩
        · rw [h3] at good
          conv => whnf
          exact ⟨(k + 1, O, a + 1), [0], [], Sub.mk' rfl ⟨⟨rfl, rfl⟩, .inl (congrArg tq hO), .inl (congrArg ti hk1), trivial⟩ ⟨⟨rfl, .inl rfl, .inl (congrArg ti ha1), .inl rfl, trivial⟩, trivial⟩ rfl rfl, ⟨good, hk, hlt⟩, by simp only; omega⟩
    · replace a1 : ((k : Int) == 9) = false := a1
      rw [a1] at hf
      have good : R = bif decide ((c.toNat : Int) < 128) then (O, ⟨b, a + 1, bif ((c.toNat : Int) == 0) && decide ((k : Int) > 0) then true else bad⟩) else numZ (10 - (k + 1)) (k + 1) O ⟨b, a + 1, bad⟩ := hf
      clear hf
      conv => whnf
      refine ⟨(u64_wrap _).1, ?_⟩
      conv => whnf
      refine csplit (fun h3 => ?_) (fun h3 => ?_)
      · rw [h3] at good
        replace good : R = (O, ⟨b, a + 1, bif ((c.toNat : Int) == 0) && decide ((k : Int) > 0) then true else bad⟩) := good
        conv => whnf
        refine csplit (fun a3 => ?_) (fun a3 => ?_)
        · conv => whnf
          refine csplit (fun a4 => ?_) (fun a4 => ?_)
          · rw [a3, a4] at good
            rw [good]
            conv => whnf
            exact ⟨.inl (congrArg tq hO), ⟨rfl, .inl rfl, .inl (congrArg ti ha1), .inl rfl, trivial⟩, trivial⟩
          · rw [a3, a4] at good
            rw [good]
            conv => whnf
            exact ⟨.inl (congrArg tq hO), ⟨rfl, .inl rfl, .inl (congrArg ti ha1), .inl rfl, trivial⟩, trivial⟩
        · rw [a3] at good
          rw [good]
          conv => whnf
          exact ⟨.inl (congrArg tq hO), ⟨rfl, .inl rfl, .inl (congrArg ti ha1), .inl rfl, trivial⟩, trivial⟩
      · rw [h3] at good
        conv => whnf
        exact ⟨(k + 1, O, a + 1), [0], [], Sub.mk' rfl ⟨⟨rfl, rfl⟩, .inl (congrArg tq hO), .inl (congrArg ti hk1), trivial⟩ ⟨⟨rfl, .inl rfl, .inl (congrArg ti ha1), .inl rfl, trivial⟩, trivial⟩ rfl rfl, ⟨good, hk, hlt⟩, by simp only; omega⟩
  · have hk : k = 10 := by have := of_decide_eq_false h1; omega
    subst hk
    replace hf : R = (0, ⟨b, a, true⟩) := hf
    rw [hf]
    conv => whnf
    refine ⟨fun _ => ?_, fun h => absurd rfl h⟩
    conv => whnf
    exact ⟨.inl rfl, aut⟩
theorem numZ_b : ∀ (f k : Nat) (n : Int) (r : Rz), (numZ f k n r).2.b = r.b ∧ (r.at_ ≤ r.b.length → (numZ f k n r).2.at_ ≤ r.b.length)
  | 0, _, _, r => ⟨rfl, fun h => h⟩
  | f + 1, k, n, ⟨b, a, bad⟩ => by
    cases hc : b[a]? with
    | none =>
      have e : numZ (f + 1) k n ⟨b, a, bad⟩ = (0, ⟨b, a, true⟩) := by simp only [numZ, hc]
      rw [e]
      exact ⟨rfl, fun h => h⟩
    | some c =>
      have hlt : a < b.length := (List.getElem?_eq_some_iff.1 hc).1
      rw [numZ_at hc]
      cases ((k : Int) == 9) && decide ((c.toNat : Int) > 1)
      · cases decide ((c.toNat : Int) < 128)
        · obtain ⟨h1, h2⟩ := numZ_b f (k + 1) (orI n (shlZ c k)) ⟨b, a + 1, bad⟩
          exact ⟨h1, fun _ => h2 hlt⟩
        · exact ⟨rfl, fun _ => hlt⟩
      · exact ⟨rfl, fun _ => hlt⟩
def nuZ (r : Rz) : Int × Rz := numZ 10 0 0 r
def smallZ (most : Int) (r : Rz) : Int × Rz := bif decide ((nuZ r).1 > IntKind.u64.wrap most) then (0, ⟨(nuZ r).2.b, (nuZ r).2.at_, true⟩) else (IntKind.i64.wrap (nuZ r).1, (nuZ r).2)
theorem z_small (r : Rz) (hr : r.at_ ≤ r.b.length) (most : Int) : K 56 [.ptr 0 0, .tr (ti most)] [r.blk] (.ret (.tr (ti (smallZ most r).1))) [some (smallZ most r).2.blk] := by
  have hn := z_number r hr
  unfold smallZ nuZ
  generalize numZ 10 0 0 r = R at hn ⊢
  obtain ⟨n, b, a, bad⟩ := R
  obtain ⟨b0, a0, bad0⟩ := r
  simp only at hn ⊢
  refine Ctr.of hT hmix Tryz.func56 rfl (fun _ _ => by kernel_rfl) rfl fun hok => ?_
  clear hok
  conv => whnf
  refine acall.au [0] [] (hn) ?_
  intro _
  conv => whnf
  refine csplit (fun h => ?_) (fun h => ?_)
  · replace h : decide (n > IntKind.u64.wrap most) = true := h
    rw [h]
    conv => whnf
    exact ⟨.inl rfl, aut⟩
  · replace h : decide (n > IntKind.u64.wrap most) = false := h
    rw [h]
    conv => whnf
    exact ⟨.inl rfl, aut⟩
def shrZ (n : Int) : Int := IntKind.i64.wrap (n.fdiv (2 ^ (min (1 : Int).toNat IntKind.u64.bits)))
def oddZ (n : Int) : Bool := IntKind.u64.wrap ((BitVec.ofInt IntKind.u64.bits n &&& BitVec.ofInt IntKind.u64.bits 1).toNat : Int) == 1
def notZ (w : Int) : Int := IntKind.i64.wrap ((BitVec.ofInt IntKind.i64.bits (if IntKind.i64.signed = true then -1 else IntKind.i64.max) ^^^ BitVec.ofInt IntKind.i64.bits w).toNat : Int)
def wordZ (r : Rz) : Int × Rz := (bif oddZ (nuZ r).1 then notZ (shrZ (nuZ r).1) else shrZ (nuZ r).1, (nuZ r).2)
theorem z_word64 (r : Rz) (hr : r.at_ ≤ r.b.length) : K 57 [.ptr 0 0] [r.blk] (.ret (.tr (ti (wordZ r).1))) [some (wordZ r).2.blk] := by
  have hn := z_number r hr
  unfold wordZ nuZ
  generalize numZ 10 0 0 r = R at hn ⊢
  obtain ⟨n, b, a, bad⟩ := R
  obtain ⟨b0, a0, bad0⟩ := r
  simp only at hn ⊢
  refine Ctr.of hT hmix Tryz.func57 rfl (fun _ _ => by kernel_rfl) rfl fun hok => ?_
  clear hok
  conv => whnf
  refine acall.au [0] [] (hn) ?_
  intro _
  conv => whnf
  refine ⟨by decide, ?_⟩
  conv => whnf
  refine csplit (fun h => ?_) (fun h => ?_)
  · replace h : oddZ n = true := h
    rw [h]
    conv => whnf
    exact ⟨.inl rfl, aut⟩
  · replace h : oddZ n = false := h
    rw [h]
    conv => whnf
    exact ⟨.inl rfl, aut⟩
end Go.Proofs.YtffhoknkfohfgaaGreatDoor.am

namespace Go.Proofs.YtffhoknkfohfgaaGreatDoor.am
open Go Go.Proofs
def Rz.ok (r : Rz) : Prop := r.at_ ≤ r.b.length
theorem nuZ_ok {r : Rz} (h : r.ok) : (nuZ r).2.ok ∧ (nuZ r).2.b = r.b := by
  have hb := numZ_b 10 0 0 r
  unfold Rz.ok nuZ
  rw [hb.1]
  exact ⟨hb.2 h, rfl⟩
theorem smallZ_ok (most : Int) {r : Rz} (h : r.ok) : (smallZ most r).2.ok ∧ (smallZ most r).2.b = r.b := by
  have hn := nuZ_ok h
  unfold smallZ
  cases decide ((nuZ r).1 > IntKind.u64.wrap most)
  · exact hn
  · exact hn
theorem wordZ_ok {r : Rz} (h : r.ok) : (wordZ r).2.ok ∧ (wordZ r).2.b = r.b := nuZ_ok h
def mayZ (c : Bool) (f : Rz → Int × Rz) (r : Rz) : Int × Rz := bif c then f r else (0, r)
def insZ (code mem : Int) (r : Rz) : Ins × Rz :=
  let k := smallZ 11 r
  let K := IntKind.u8.wrap k.1
  let o := mayZ (K == 2) (smallZ 19) k.2
  let O := IntKind.u8.wrap o.1
  let d := mayZ (useD K) (smallZ 16) o.2
  let a := mayZ (useA K) (smallZ 16) d.2
  let b := mayZ (K == 2 && two O) (smallZ 16) a.2
  let w := mayZ (K == 1) wordZ b.2
  let m := mayZ (useM K) (smallZ mem) w.2
  let t := mayZ (useT K) (smallZ code) m.2
  let f := smallZ 4096 t.2
  (⟨K, O, d.1, a.1, b.1, m.1, t.1, w.1, f.1⟩, f.2)

set_option maxRecDepth 100000 in
theorem z_ins0 (code mem : Int) (r : Rz) (hr : r.ok) (hk : IntKind.u8.wrap (smallZ 11 r).1 = 0) : K 58 [.ptr 0 0, .tr (ti code), .tr (ti mem)] [r.blk] (.ret (insZ code mem r).1.av) [some (insZ code mem r).2.blk] := by
  have eF := show insZ code mem r = insZ code mem r from rfl
  conv at eF => rhs; unfold insZ mayZ
  simp only [hk] at eF
  simp only [show ((0 : Int) == 2) = false from rfl, show ((0 : Int) == 1) = false from rfl, show useD 0 = false from rfl, show useA 0 = false from rfl, show useM 0 = false from rfl, show useT 0 = false from rfl, cond_true, cond_false, Bool.true_and, Bool.false_and] at eF
  rw [eF]
  clear eF
  have c0 := z_small r hr 11
  have ok0 := (smallZ_ok 11 hr).1
  generalize smallZ 11 r = S0 at c0 ok0 hk ⊢
  obtain ⟨n0, r0⟩ := S0
  simp only at c0 ok0 hk ⊢
  have c1 := z_small r0 ok0 4096
  have ok1 := (smallZ_ok 4096 ok0).1
  generalize smallZ 4096 r0 = S1 at c1 ok1 ⊢
  obtain ⟨n1, r1⟩ := S1
  simp only at c1 ok1 ⊢
  clear ok0
  clear ok1
  clear hr
  obtain ⟨r_b, r_a, r_x⟩ := r
  obtain ⟨r0_b, r0_a, r0_x⟩ := r0
  obtain ⟨r1_b, r1_a, r1_x⟩ := r1
  have hu : K 28 [.tr (tu 0)] [] (.ret (.tup [.tr (tb false), .tr (tb false), .tr (tb false), .tr (tb false)])) [] := z_uses 0
  refine Ctr.of hT hmix Tryz.func58 rfl (fun _ _ => by kernel_rfl) rfl fun hok => ?_
  clear hok
  conv => whnf
  refine acall.au [0] [] (c0) ?_
  intro _
  conv => whnf
  rw [hk]
  conv => whnf
  refine acall.pure _ (hu) rfl rfl fun _ => ?_
  conv => whnf
  refine acall.au [0] [] (c1) ?_
  intro _
  conv => whnf
  exact aut

set_option maxRecDepth 100000 in
theorem z_ins1 (code mem : Int) (r : Rz) (hr : r.ok) (hk : IntKind.u8.wrap (smallZ 11 r).1 = 1) : K 58 [.ptr 0 0, .tr (ti code), .tr (ti mem)] [r.blk] (.ret (insZ code mem r).1.av) [some (insZ code mem r).2.blk] := by
  have eF := show insZ code mem r = insZ code mem r from rfl
  conv at eF => rhs; unfold insZ mayZ
  simp only [hk] at eF
  simp only [show ((1 : Int) == 2) = false from rfl, show ((1 : Int) == 1) = true from rfl, show useD 1 = true from rfl, show useA 1 = false from rfl, show useM 1 = false from rfl, show useT 1 = false from rfl, cond_true, cond_false, Bool.true_and, Bool.false_and] at eF
  rw [eF]
  clear eF
  have c0 := z_small r hr 11
  have ok0 := (smallZ_ok 11 hr).1
  generalize smallZ 11 r = S0 at c0 ok0 hk ⊢
  obtain ⟨n0, r0⟩ := S0
  simp only at c0 ok0 hk ⊢
  have c1 := z_small r0 ok0 16
  have ok1 := (smallZ_ok 16 ok0).1
  generalize smallZ 16 r0 = S1 at c1 ok1 ⊢
  obtain ⟨n1, r1⟩ := S1
  simp only at c1 ok1 ⊢
  have c2 := z_word64 r1 ok1
  have ok2 := (wordZ_ok ok1).1
  generalize wordZ r1 = S2 at c2 ok2 ⊢
  obtain ⟨n2, r2⟩ := S2
  simp only at c2 ok2 ⊢
  have c3 := z_small r2 ok2 4096
  have ok3 := (smallZ_ok 4096 ok2).1
  generalize smallZ 4096 r2 = S3 at c3 ok3 ⊢
  obtain ⟨n3, r3⟩ := S3
  simp only at c3 ok3 ⊢
  clear ok0
  clear ok1
  clear ok2
  clear ok3
  clear hr
  obtain ⟨r_b, r_a, r_x⟩ := r
  obtain ⟨r0_b, r0_a, r0_x⟩ := r0
  obtain ⟨r1_b, r1_a, r1_x⟩ := r1
  obtain ⟨r2_b, r2_a, r2_x⟩ := r2
  obtain ⟨r3_b, r3_a, r3_x⟩ := r3
  have hu : K 28 [.tr (tu 1)] [] (.ret (.tup [.tr (tb true), .tr (tb false), .tr (tb false), .tr (tb false)])) [] := z_uses 1
  refine Ctr.of hT hmix Tryz.func58 rfl (fun _ _ => by kernel_rfl) rfl fun hok => ?_
  clear hok
  conv => whnf
  refine acall.au [0] [] (c0) ?_
  intro _
  conv => whnf
  rw [hk]
  conv => whnf
  refine acall.pure _ (hu) rfl rfl fun _ => ?_
  conv => whnf
  refine acall.au [0] [] (c1) ?_
  intro _
  conv => whnf
  refine acall.au [0] [] (c2) ?_
  intro _
  conv => whnf
  refine acall.au [0] [] (c3) ?_
  intro _
  conv => whnf
  exact aut

set_option maxRecDepth 100000 in
theorem z_ins3 (code mem : Int) (r : Rz) (hr : r.ok) (hk : IntKind.u8.wrap (smallZ 11 r).1 = 3) : K 58 [.ptr 0 0, .tr (ti code), .tr (ti mem)] [r.blk] (.ret (insZ code mem r).1.av) [some (insZ code mem r).2.blk] := by
  have eF := show insZ code mem r = insZ code mem r from rfl
  conv at eF => rhs; unfold insZ mayZ
  simp only [hk] at eF
  simp only [show ((3 : Int) == 2) = false from rfl, show ((3 : Int) == 1) = false from rfl, show useD 3 = true from rfl, show useA 3 = false from rfl, show useM 3 = true from rfl, show useT 3 = false from rfl, cond_true, cond_false, Bool.true_and, Bool.false_and] at eF
  rw [eF]
  clear eF
  have c0 := z_small r hr 11
  have ok0 := (smallZ_ok 11 hr).1
  generalize smallZ 11 r = S0 at c0 ok0 hk ⊢
  obtain ⟨n0, r0⟩ := S0
  simp only at c0 ok0 hk ⊢
  have c1 := z_small r0 ok0 16
  have ok1 := (smallZ_ok 16 ok0).1
  generalize smallZ 16 r0 = S1 at c1 ok1 ⊢
  obtain ⟨n1, r1⟩ := S1
  simp only at c1 ok1 ⊢
  have c2 := z_small r1 ok1 mem
  have ok2 := (smallZ_ok mem ok1).1
  generalize smallZ mem r1 = S2 at c2 ok2 ⊢
  obtain ⟨n2, r2⟩ := S2
  simp only at c2 ok2 ⊢
  have c3 := z_small r2 ok2 4096
  have ok3 := (smallZ_ok 4096 ok2).1
  generalize smallZ 4096 r2 = S3 at c3 ok3 ⊢
  obtain ⟨n3, r3⟩ := S3
  simp only at c3 ok3 ⊢
  clear ok0
  clear ok1
  clear ok2
  clear ok3
  clear hr
  obtain ⟨r_b, r_a, r_x⟩ := r
  obtain ⟨r0_b, r0_a, r0_x⟩ := r0
  obtain ⟨r1_b, r1_a, r1_x⟩ := r1
  obtain ⟨r2_b, r2_a, r2_x⟩ := r2
  obtain ⟨r3_b, r3_a, r3_x⟩ := r3
  have hu : K 28 [.tr (tu 3)] [] (.ret (.tup [.tr (tb true), .tr (tb false), .tr (tb true), .tr (tb false)])) [] := z_uses 3
  refine Ctr.of hT hmix Tryz.func58 rfl (fun _ _ => by kernel_rfl) rfl fun hok => ?_
  clear hok
  conv => whnf
  refine acall.au [0] [] (c0) ?_
  intro _
  conv => whnf
  rw [hk]
  conv => whnf
  refine acall.pure _ (hu) rfl rfl fun _ => ?_
  conv => whnf
  refine acall.au [0] [] (c1) ?_
  intro _
  conv => whnf
  refine acall.au [0] [] (c2) ?_
  intro _
  conv => whnf
  refine acall.au [0] [] (c3) ?_
  intro _
  conv => whnf
  exact aut

set_option maxRecDepth 100000 in
theorem z_ins4 (code mem : Int) (r : Rz) (hr : r.ok) (hk : IntKind.u8.wrap (smallZ 11 r).1 = 4) : K 58 [.ptr 0 0, .tr (ti code), .tr (ti mem)] [r.blk] (.ret (insZ code mem r).1.av) [some (insZ code mem r).2.blk] := by
  have eF := show insZ code mem r = insZ code mem r from rfl
  conv at eF => rhs; unfold insZ mayZ
  simp only [hk] at eF
  simp only [show ((4 : Int) == 2) = false from rfl, show ((4 : Int) == 1) = false from rfl, show useD 4 = false from rfl, show useA 4 = true from rfl, show useM 4 = true from rfl, show useT 4 = false from rfl, cond_true, cond_false, Bool.true_and, Bool.false_and] at eF
  rw [eF]
  clear eF
  have c0 := z_small r hr 11
  have ok0 := (smallZ_ok 11 hr).1
  generalize smallZ 11 r = S0 at c0 ok0 hk ⊢
  obtain ⟨n0, r0⟩ := S0
  simp only at c0 ok0 hk ⊢
  have c1 := z_small r0 ok0 16
  have ok1 := (smallZ_ok 16 ok0).1
  generalize smallZ 16 r0 = S1 at c1 ok1 ⊢
  obtain ⟨n1, r1⟩ := S1
  simp only at c1 ok1 ⊢
  have c2 := z_small r1 ok1 mem
  have ok2 := (smallZ_ok mem ok1).1
  generalize smallZ mem r1 = S2 at c2 ok2 ⊢
  obtain ⟨n2, r2⟩ := S2
  simp only at c2 ok2 ⊢
  have c3 := z_small r2 ok2 4096
  have ok3 := (smallZ_ok 4096 ok2).1
  generalize smallZ 4096 r2 = S3 at c3 ok3 ⊢
  obtain ⟨n3, r3⟩ := S3
  simp only at c3 ok3 ⊢
  clear ok0
  clear ok1
  clear ok2
  clear ok3
  clear hr
  obtain ⟨r_b, r_a, r_x⟩ := r
  obtain ⟨r0_b, r0_a, r0_x⟩ := r0
  obtain ⟨r1_b, r1_a, r1_x⟩ := r1
  obtain ⟨r2_b, r2_a, r2_x⟩ := r2
  obtain ⟨r3_b, r3_a, r3_x⟩ := r3
  have hu : K 28 [.tr (tu 4)] [] (.ret (.tup [.tr (tb false), .tr (tb true), .tr (tb true), .tr (tb false)])) [] := z_uses 4
  refine Ctr.of hT hmix Tryz.func58 rfl (fun _ _ => by kernel_rfl) rfl fun hok => ?_
  clear hok
  conv => whnf
  refine acall.au [0] [] (c0) ?_
  intro _
  conv => whnf
  rw [hk]
  conv => whnf
  refine acall.pure _ (hu) rfl rfl fun _ => ?_
  conv => whnf
  refine acall.au [0] [] (c1) ?_
  intro _
  conv => whnf
  refine acall.au [0] [] (c2) ?_
  intro _
  conv => whnf
  refine acall.au [0] [] (c3) ?_
  intro _
  conv => whnf
  exact aut

set_option maxRecDepth 100000 in
theorem z_ins5 (code mem : Int) (r : Rz) (hr : r.ok) (hk : IntKind.u8.wrap (smallZ 11 r).1 = 5) : K 58 [.ptr 0 0, .tr (ti code), .tr (ti mem)] [r.blk] (.ret (insZ code mem r).1.av) [some (insZ code mem r).2.blk] := by
  have eF := show insZ code mem r = insZ code mem r from rfl
  conv at eF => rhs; unfold insZ mayZ
  simp only [hk] at eF
  simp only [show ((5 : Int) == 2) = false from rfl, show ((5 : Int) == 1) = false from rfl, show useD 5 = true from rfl, show useA 5 = false from rfl, show useM 5 = true from rfl, show useT 5 = false from rfl, cond_true, cond_false, Bool.true_and, Bool.false_and] at eF
  rw [eF]
  clear eF
  have c0 := z_small r hr 11
  have ok0 := (smallZ_ok 11 hr).1
  generalize smallZ 11 r = S0 at c0 ok0 hk ⊢
  obtain ⟨n0, r0⟩ := S0
  simp only at c0 ok0 hk ⊢
  have c1 := z_small r0 ok0 16
  have ok1 := (smallZ_ok 16 ok0).1
  generalize smallZ 16 r0 = S1 at c1 ok1 ⊢
  obtain ⟨n1, r1⟩ := S1
  simp only at c1 ok1 ⊢
  have c2 := z_small r1 ok1 mem
  have ok2 := (smallZ_ok mem ok1).1
  generalize smallZ mem r1 = S2 at c2 ok2 ⊢
  obtain ⟨n2, r2⟩ := S2
  simp only at c2 ok2 ⊢
  have c3 := z_small r2 ok2 4096
  have ok3 := (smallZ_ok 4096 ok2).1
  generalize smallZ 4096 r2 = S3 at c3 ok3 ⊢
  obtain ⟨n3, r3⟩ := S3
  simp only at c3 ok3 ⊢
  clear ok0
  clear ok1
  clear ok2
  clear ok3
  clear hr
  obtain ⟨r_b, r_a, r_x⟩ := r
  obtain ⟨r0_b, r0_a, r0_x⟩ := r0
  obtain ⟨r1_b, r1_a, r1_x⟩ := r1
  obtain ⟨r2_b, r2_a, r2_x⟩ := r2
  obtain ⟨r3_b, r3_a, r3_x⟩ := r3
  have hu : K 28 [.tr (tu 5)] [] (.ret (.tup [.tr (tb true), .tr (tb false), .tr (tb true), .tr (tb false)])) [] := z_uses 5
  refine Ctr.of hT hmix Tryz.func58 rfl (fun _ _ => by kernel_rfl) rfl fun hok => ?_
  clear hok
  conv => whnf
  refine acall.au [0] [] (c0) ?_
  intro _
  conv => whnf
  rw [hk]
  conv => whnf
  refine acall.pure _ (hu) rfl rfl fun _ => ?_
  conv => whnf
  refine acall.au [0] [] (c1) ?_
  intro _
  conv => whnf
  refine acall.au [0] [] (c2) ?_
  intro _
  conv => whnf
  refine acall.au [0] [] (c3) ?_
  intro _
  conv => whnf
  exact aut

set_option maxRecDepth 100000 in
theorem z_ins6 (code mem : Int) (r : Rz) (hr : r.ok) (hk : IntKind.u8.wrap (smallZ 11 r).1 = 6) : K 58 [.ptr 0 0, .tr (ti code), .tr (ti mem)] [r.blk] (.ret (insZ code mem r).1.av) [some (insZ code mem r).2.blk] := by
  have eF := show insZ code mem r = insZ code mem r from rfl
  conv at eF => rhs; unfold insZ mayZ
  simp only [hk] at eF
  simp only [show ((6 : Int) == 2) = false from rfl, show ((6 : Int) == 1) = false from rfl, show useD 6 = false from rfl, show useA 6 = false from rfl, show useM 6 = false from rfl, show useT 6 = false from rfl, cond_true, cond_false, Bool.true_and, Bool.false_and] at eF
  rw [eF]
  clear eF
  have c0 := z_small r hr 11
  have ok0 := (smallZ_ok 11 hr).1
  generalize smallZ 11 r = S0 at c0 ok0 hk ⊢
  obtain ⟨n0, r0⟩ := S0
  simp only at c0 ok0 hk ⊢
  have c1 := z_small r0 ok0 4096
  have ok1 := (smallZ_ok 4096 ok0).1
  generalize smallZ 4096 r0 = S1 at c1 ok1 ⊢
  obtain ⟨n1, r1⟩ := S1
  simp only at c1 ok1 ⊢
  clear ok0
  clear ok1
  clear hr
  obtain ⟨r_b, r_a, r_x⟩ := r
  obtain ⟨r0_b, r0_a, r0_x⟩ := r0
  obtain ⟨r1_b, r1_a, r1_x⟩ := r1
  have hu : K 28 [.tr (tu 6)] [] (.ret (.tup [.tr (tb false), .tr (tb false), .tr (tb false), .tr (tb false)])) [] := z_uses 6
  refine Ctr.of hT hmix Tryz.func58 rfl (fun _ _ => by kernel_rfl) rfl fun hok => ?_
  clear hok
  conv => whnf
  refine acall.au [0] [] (c0) ?_
  intro _
  conv => whnf
  rw [hk]
  conv => whnf
  refine acall.pure _ (hu) rfl rfl fun _ => ?_
  conv => whnf
  refine acall.au [0] [] (c1) ?_
  intro _
  conv => whnf
  exact aut

set_option maxRecDepth 100000 in
theorem z_ins7 (code mem : Int) (r : Rz) (hr : r.ok) (hk : IntKind.u8.wrap (smallZ 11 r).1 = 7) : K 58 [.ptr 0 0, .tr (ti code), .tr (ti mem)] [r.blk] (.ret (insZ code mem r).1.av) [some (insZ code mem r).2.blk] := by
  have eF := show insZ code mem r = insZ code mem r from rfl
  conv at eF => rhs; unfold insZ mayZ
  simp only [hk] at eF
  simp only [show ((7 : Int) == 2) = false from rfl, show ((7 : Int) == 1) = false from rfl, show useD 7 = false from rfl, show useA 7 = true from rfl, show useM 7 = false from rfl, show useT 7 = false from rfl, cond_true, cond_false, Bool.true_and, Bool.false_and] at eF
  rw [eF]
  clear eF
  have c0 := z_small r hr 11
  have ok0 := (smallZ_ok 11 hr).1
  generalize smallZ 11 r = S0 at c0 ok0 hk ⊢
  obtain ⟨n0, r0⟩ := S0
  simp only at c0 ok0 hk ⊢
  have c1 := z_small r0 ok0 16
  have ok1 := (smallZ_ok 16 ok0).1
  generalize smallZ 16 r0 = S1 at c1 ok1 ⊢
  obtain ⟨n1, r1⟩ := S1
  simp only at c1 ok1 ⊢
  have c2 := z_small r1 ok1 4096
  have ok2 := (smallZ_ok 4096 ok1).1
  generalize smallZ 4096 r1 = S2 at c2 ok2 ⊢
  obtain ⟨n2, r2⟩ := S2
  simp only at c2 ok2 ⊢
  clear ok0
  clear ok1
  clear ok2
  clear hr
  obtain ⟨r_b, r_a, r_x⟩ := r
  obtain ⟨r0_b, r0_a, r0_x⟩ := r0
  obtain ⟨r1_b, r1_a, r1_x⟩ := r1
  obtain ⟨r2_b, r2_a, r2_x⟩ := r2
  have hu : K 28 [.tr (tu 7)] [] (.ret (.tup [.tr (tb false), .tr (tb true), .tr (tb false), .tr (tb false)])) [] := z_uses 7
  refine Ctr.of hT hmix Tryz.func58 rfl (fun _ _ => by kernel_rfl) rfl fun hok => ?_
  clear hok
  conv => whnf
  refine acall.au [0] [] (c0) ?_
  intro _
  conv => whnf
  rw [hk]
  conv => whnf
  refine acall.pure _ (hu) rfl rfl fun _ => ?_
  conv => whnf
  refine acall.au [0] [] (c1) ?_
  intro _
  conv => whnf
  refine acall.au [0] [] (c2) ?_
  intro _
  conv => whnf
  exact aut

set_option maxRecDepth 100000 in
theorem z_ins8 (code mem : Int) (r : Rz) (hr : r.ok) (hk : IntKind.u8.wrap (smallZ 11 r).1 = 8) : K 58 [.ptr 0 0, .tr (ti code), .tr (ti mem)] [r.blk] (.ret (insZ code mem r).1.av) [some (insZ code mem r).2.blk] := by
  have eF := show insZ code mem r = insZ code mem r from rfl
  conv at eF => rhs; unfold insZ mayZ
  simp only [hk] at eF
  simp only [show ((8 : Int) == 2) = false from rfl, show ((8 : Int) == 1) = false from rfl, show useD 8 = false from rfl, show useA 8 = false from rfl, show useM 8 = false from rfl, show useT 8 = true from rfl, cond_true, cond_false, Bool.true_and, Bool.false_and] at eF
  rw [eF]
  clear eF
  have c0 := z_small r hr 11
  have ok0 := (smallZ_ok 11 hr).1
  generalize smallZ 11 r = S0 at c0 ok0 hk ⊢
  obtain ⟨n0, r0⟩ := S0
  simp only at c0 ok0 hk ⊢
  have c1 := z_small r0 ok0 code
  have ok1 := (smallZ_ok code ok0).1
  generalize smallZ code r0 = S1 at c1 ok1 ⊢
  obtain ⟨n1, r1⟩ := S1
  simp only at c1 ok1 ⊢
  have c2 := z_small r1 ok1 4096
  have ok2 := (smallZ_ok 4096 ok1).1
  generalize smallZ 4096 r1 = S2 at c2 ok2 ⊢
  obtain ⟨n2, r2⟩ := S2
  simp only at c2 ok2 ⊢
  clear ok0
  clear ok1
  clear ok2
  clear hr
  obtain ⟨r_b, r_a, r_x⟩ := r
  obtain ⟨r0_b, r0_a, r0_x⟩ := r0
  obtain ⟨r1_b, r1_a, r1_x⟩ := r1
  obtain ⟨r2_b, r2_a, r2_x⟩ := r2
  have hu : K 28 [.tr (tu 8)] [] (.ret (.tup [.tr (tb false), .tr (tb false), .tr (tb false), .tr (tb true)])) [] := z_uses 8
  refine Ctr.of hT hmix Tryz.func58 rfl (fun _ _ => by kernel_rfl) rfl fun hok => ?_
  clear hok
  conv => whnf
  refine acall.au [0] [] (c0) ?_
  intro _
  conv => whnf
  rw [hk]
  conv => whnf
  refine acall.pure _ (hu) rfl rfl fun _ => ?_
  conv => whnf
  refine acall.au [0] [] (c1) ?_
  intro _
  conv => whnf
  refine acall.au [0] [] (c2) ?_
  intro _
  conv => whnf
  exact aut

set_option maxRecDepth 100000 in
theorem z_ins9 (code mem : Int) (r : Rz) (hr : r.ok) (hk : IntKind.u8.wrap (smallZ 11 r).1 = 9) : K 58 [.ptr 0 0, .tr (ti code), .tr (ti mem)] [r.blk] (.ret (insZ code mem r).1.av) [some (insZ code mem r).2.blk] := by
  have eF := show insZ code mem r = insZ code mem r from rfl
  conv at eF => rhs; unfold insZ mayZ
  simp only [hk] at eF
  simp only [show ((9 : Int) == 2) = false from rfl, show ((9 : Int) == 1) = false from rfl, show useD 9 = false from rfl, show useA 9 = true from rfl, show useM 9 = false from rfl, show useT 9 = true from rfl, cond_true, cond_false, Bool.true_and, Bool.false_and] at eF
  rw [eF]
  clear eF
  have c0 := z_small r hr 11
  have ok0 := (smallZ_ok 11 hr).1
  generalize smallZ 11 r = S0 at c0 ok0 hk ⊢
  obtain ⟨n0, r0⟩ := S0
  simp only at c0 ok0 hk ⊢
  have c1 := z_small r0 ok0 16
  have ok1 := (smallZ_ok 16 ok0).1
  generalize smallZ 16 r0 = S1 at c1 ok1 ⊢
  obtain ⟨n1, r1⟩ := S1
  simp only at c1 ok1 ⊢
  have c2 := z_small r1 ok1 code
  have ok2 := (smallZ_ok code ok1).1
  generalize smallZ code r1 = S2 at c2 ok2 ⊢
  obtain ⟨n2, r2⟩ := S2
  simp only at c2 ok2 ⊢
  have c3 := z_small r2 ok2 4096
  have ok3 := (smallZ_ok 4096 ok2).1
  generalize smallZ 4096 r2 = S3 at c3 ok3 ⊢
  obtain ⟨n3, r3⟩ := S3
  simp only at c3 ok3 ⊢
  clear ok0
  clear ok1
  clear ok2
  clear ok3
  clear hr
  obtain ⟨r_b, r_a, r_x⟩ := r
  obtain ⟨r0_b, r0_a, r0_x⟩ := r0
  obtain ⟨r1_b, r1_a, r1_x⟩ := r1
  obtain ⟨r2_b, r2_a, r2_x⟩ := r2
  obtain ⟨r3_b, r3_a, r3_x⟩ := r3
  have hu : K 28 [.tr (tu 9)] [] (.ret (.tup [.tr (tb false), .tr (tb true), .tr (tb false), .tr (tb true)])) [] := z_uses 9
  refine Ctr.of hT hmix Tryz.func58 rfl (fun _ _ => by kernel_rfl) rfl fun hok => ?_
  clear hok
  conv => whnf
  refine acall.au [0] [] (c0) ?_
  intro _
  conv => whnf
  rw [hk]
  conv => whnf
  refine acall.pure _ (hu) rfl rfl fun _ => ?_
  conv => whnf
  refine acall.au [0] [] (c1) ?_
  intro _
  conv => whnf
  refine acall.au [0] [] (c2) ?_
  intro _
  conv => whnf
  refine acall.au [0] [] (c3) ?_
  intro _
  conv => whnf
  exact aut

set_option maxRecDepth 100000 in
theorem z_ins10 (code mem : Int) (r : Rz) (hr : r.ok) (hk : IntKind.u8.wrap (smallZ 11 r).1 = 10) : K 58 [.ptr 0 0, .tr (ti code), .tr (ti mem)] [r.blk] (.ret (insZ code mem r).1.av) [some (insZ code mem r).2.blk] := by
  have eF := show insZ code mem r = insZ code mem r from rfl
  conv at eF => rhs; unfold insZ mayZ
  simp only [hk] at eF
  simp only [show ((10 : Int) == 2) = false from rfl, show ((10 : Int) == 1) = false from rfl, show useD 10 = false from rfl, show useA 10 = false from rfl, show useM 10 = false from rfl, show useT 10 = false from rfl, cond_true, cond_false, Bool.true_and, Bool.false_and] at eF
  rw [eF]
  clear eF
  have c0 := z_small r hr 11
  have ok0 := (smallZ_ok 11 hr).1
  generalize smallZ 11 r = S0 at c0 ok0 hk ⊢
  obtain ⟨n0, r0⟩ := S0
  simp only at c0 ok0 hk ⊢
  have c1 := z_small r0 ok0 4096
  have ok1 := (smallZ_ok 4096 ok0).1
  generalize smallZ 4096 r0 = S1 at c1 ok1 ⊢
  obtain ⟨n1, r1⟩ := S1
  simp only at c1 ok1 ⊢
  clear ok0
  clear ok1
  clear hr
  obtain ⟨r_b, r_a, r_x⟩ := r
  obtain ⟨r0_b, r0_a, r0_x⟩ := r0
  obtain ⟨r1_b, r1_a, r1_x⟩ := r1
  have hu : K 28 [.tr (tu 10)] [] (.ret (.tup [.tr (tb false), .tr (tb false), .tr (tb false), .tr (tb false)])) [] := z_uses 10
  refine Ctr.of hT hmix Tryz.func58 rfl (fun _ _ => by kernel_rfl) rfl fun hok => ?_
  clear hok
  conv => whnf
  refine acall.au [0] [] (c0) ?_
  intro _
  conv => whnf
  rw [hk]
  conv => whnf
  refine acall.pure _ (hu) rfl rfl fun _ => ?_
  conv => whnf
  refine acall.au [0] [] (c1) ?_
  intro _
  conv => whnf
  exact aut

set_option maxRecDepth 100000 in
theorem z_ins11 (code mem : Int) (r : Rz) (hr : r.ok) (hk : IntKind.u8.wrap (smallZ 11 r).1 = 11) : K 58 [.ptr 0 0, .tr (ti code), .tr (ti mem)] [r.blk] (.ret (insZ code mem r).1.av) [some (insZ code mem r).2.blk] := by
  have eF := show insZ code mem r = insZ code mem r from rfl
  conv at eF => rhs; unfold insZ mayZ
  simp only [hk] at eF
  simp only [show ((11 : Int) == 2) = false from rfl, show ((11 : Int) == 1) = false from rfl, show useD 11 = false from rfl, show useA 11 = false from rfl, show useM 11 = false from rfl, show useT 11 = false from rfl, cond_true, cond_false, Bool.true_and, Bool.false_and] at eF
  rw [eF]
  clear eF
  have c0 := z_small r hr 11
  have ok0 := (smallZ_ok 11 hr).1
  generalize smallZ 11 r = S0 at c0 ok0 hk ⊢
  obtain ⟨n0, r0⟩ := S0
  simp only at c0 ok0 hk ⊢
  have c1 := z_small r0 ok0 4096
  have ok1 := (smallZ_ok 4096 ok0).1
  generalize smallZ 4096 r0 = S1 at c1 ok1 ⊢
  obtain ⟨n1, r1⟩ := S1
  simp only at c1 ok1 ⊢
  clear ok0
  clear ok1
  clear hr
  obtain ⟨r_b, r_a, r_x⟩ := r
  obtain ⟨r0_b, r0_a, r0_x⟩ := r0
  obtain ⟨r1_b, r1_a, r1_x⟩ := r1
  have hu : K 28 [.tr (tu 11)] [] (.ret (.tup [.tr (tb false), .tr (tb false), .tr (tb false), .tr (tb false)])) [] := z_uses 11
  refine Ctr.of hT hmix Tryz.func58 rfl (fun _ _ => by kernel_rfl) rfl fun hok => ?_
  clear hok
  conv => whnf
  refine acall.au [0] [] (c0) ?_
  intro _
  conv => whnf
  rw [hk]
  conv => whnf
  refine acall.pure _ (hu) rfl rfl fun _ => ?_
  conv => whnf
  refine acall.au [0] [] (c1) ?_
  intro _
  conv => whnf
  exact aut

set_option maxRecDepth 100000 in
theorem z_ins2t (code mem : Int) (r : Rz) (hr : r.ok) (hk : IntKind.u8.wrap (smallZ 11 r).1 = 2) (h2 : two (IntKind.u8.wrap (smallZ 19 (smallZ 11 r).2).1) = true) : K 58 [.ptr 0 0, .tr (ti code), .tr (ti mem)] [r.blk] (.ret (insZ code mem r).1.av) [some (insZ code mem r).2.blk] := by
  have eF := show insZ code mem r = insZ code mem r from rfl
  conv at eF => rhs; unfold insZ mayZ
  simp only [hk] at eF
  simp only [show ((2 : Int) == 2) = true from rfl, show ((2 : Int) == 1) = false from rfl, show useD 2 = true from rfl, show useA 2 = true from rfl, show useM 2 = false from rfl, show useT 2 = false from rfl, cond_true, cond_false, Bool.true_and, Bool.false_and, h2] at eF
  rw [eF]
  clear eF
  have c0 := z_small r hr 11
  have ok0 := (smallZ_ok 11 hr).1
  generalize smallZ 11 r = S0 at c0 ok0 hk h2 ⊢
  obtain ⟨n0, r0⟩ := S0
  simp only at c0 ok0 hk h2 ⊢
  have c1 := z_small r0 ok0 19
  have ok1 := (smallZ_ok 19 ok0).1
  generalize smallZ 19 r0 = S1 at c1 ok1 h2 ⊢
  obtain ⟨n1, r1⟩ := S1
  simp only at c1 ok1 h2 ⊢
  have c2 := z_small r1 ok1 16
  have ok2 := (smallZ_ok 16 ok1).1
  generalize smallZ 16 r1 = S2 at c2 ok2 ⊢
  obtain ⟨n2, r2⟩ := S2
  simp only at c2 ok2 ⊢
  have c3 := z_small r2 ok2 16
  have ok3 := (smallZ_ok 16 ok2).1
  generalize smallZ 16 r2 = S3 at c3 ok3 ⊢
  obtain ⟨n3, r3⟩ := S3
  simp only at c3 ok3 ⊢
  have c4 := z_small r3 ok3 16
  have ok4 := (smallZ_ok 16 ok3).1
  generalize smallZ 16 r3 = S4 at c4 ok4 ⊢
  obtain ⟨n4, r4⟩ := S4
  simp only at c4 ok4 ⊢
  have c5 := z_small r4 ok4 4096
  have ok5 := (smallZ_ok 4096 ok4).1
  generalize smallZ 4096 r4 = S5 at c5 ok5 ⊢
  obtain ⟨n5, r5⟩ := S5
  simp only at c5 ok5 ⊢
  clear ok0
  clear ok1
  clear ok2
  clear ok3
  clear ok4
  clear ok5
  clear hr
  obtain ⟨r_b, r_a, r_x⟩ := r
  obtain ⟨r0_b, r0_a, r0_x⟩ := r0
  obtain ⟨r1_b, r1_a, r1_x⟩ := r1
  obtain ⟨r2_b, r2_a, r2_x⟩ := r2
  obtain ⟨r3_b, r3_a, r3_x⟩ := r3
  obtain ⟨r4_b, r4_a, r4_x⟩ := r4
  obtain ⟨r5_b, r5_a, r5_x⟩ := r5
  have hu : K 28 [.tr (tu 2)] [] (.ret (.tup [.tr (tb true), .tr (tb true), .tr (tb false), .tr (tb false)])) [] := z_uses 2
  refine Ctr.of hT hmix Tryz.func58 rfl (fun _ _ => by kernel_rfl) rfl fun hok => ?_
  clear hok
  conv => whnf
  refine acall.au [0] [] (c0) ?_
  intro _
  conv => whnf
  rw [hk]
  conv => whnf
  have htw := z_two (IntKind.u8.wrap n1)
  rw [h2] at htw
  refine acall.au [0] [] (c1) ?_
  intro _
  conv => whnf
  refine acall.pure _ (hu) rfl rfl fun _ => ?_
  conv => whnf
  refine acall.au [0] [] (c2) ?_
  intro _
  conv => whnf
  refine acall.au [0] [] (c3) ?_
  intro _
  conv => whnf
  refine acall.pure _ (htw) rfl rfl fun _ => ?_
  conv => whnf
  refine acall.au [0] [] (c4) ?_
  intro _
  conv => whnf
  refine acall.au [0] [] (c5) ?_
  intro _
  conv => whnf
  exact aut

set_option maxRecDepth 100000 in
theorem z_ins2f (code mem : Int) (r : Rz) (hr : r.ok) (hk : IntKind.u8.wrap (smallZ 11 r).1 = 2) (h2 : two (IntKind.u8.wrap (smallZ 19 (smallZ 11 r).2).1) = false) : K 58 [.ptr 0 0, .tr (ti code), .tr (ti mem)] [r.blk] (.ret (insZ code mem r).1.av) [some (insZ code mem r).2.blk] := by
  have eF := show insZ code mem r = insZ code mem r from rfl
  conv at eF => rhs; unfold insZ mayZ
  simp only [hk] at eF
  simp only [show ((2 : Int) == 2) = true from rfl, show ((2 : Int) == 1) = false from rfl, show useD 2 = true from rfl, show useA 2 = true from rfl, show useM 2 = false from rfl, show useT 2 = false from rfl, cond_true, cond_false, Bool.true_and, Bool.false_and, h2] at eF
  rw [eF]
  clear eF
  have c0 := z_small r hr 11
  have ok0 := (smallZ_ok 11 hr).1
  generalize smallZ 11 r = S0 at c0 ok0 hk h2 ⊢
  obtain ⟨n0, r0⟩ := S0
  simp only at c0 ok0 hk h2 ⊢
  have c1 := z_small r0 ok0 19
  have ok1 := (smallZ_ok 19 ok0).1
  generalize smallZ 19 r0 = S1 at c1 ok1 h2 ⊢
  obtain ⟨n1, r1⟩ := S1
  simp only at c1 ok1 h2 ⊢
  have c2 := z_small r1 ok1 16
  have ok2 := (smallZ_ok 16 ok1).1
  generalize smallZ 16 r1 = S2 at c2 ok2 ⊢
  obtain ⟨n2, r2⟩ := S2
  simp only at c2 ok2 ⊢
  have c3 := z_small r2 ok2 16
  have ok3 := (smallZ_ok 16 ok2).1
  generalize smallZ 16 r2 = S3 at c3 ok3 ⊢
  obtain ⟨n3, r3⟩ := S3
  simp only at c3 ok3 ⊢
  have c4 := z_small r3 ok3 4096
  have ok4 := (smallZ_ok 4096 ok3).1
  generalize smallZ 4096 r3 = S4 at c4 ok4 ⊢
  obtain ⟨n4, r4⟩ := S4
  simp only at c4 ok4 ⊢
  clear ok0
  clear ok1
  clear ok2
  clear ok3
  clear ok4
  clear hr
  obtain ⟨r_b, r_a, r_x⟩ := r
  obtain ⟨r0_b, r0_a, r0_x⟩ := r0
  obtain ⟨r1_b, r1_a, r1_x⟩ := r1
  obtain ⟨r2_b, r2_a, r2_x⟩ := r2
  obtain ⟨r3_b, r3_a, r3_x⟩ := r3
  obtain ⟨r4_b, r4_a, r4_x⟩ := r4
  have hu : K 28 [.tr (tu 2)] [] (.ret (.tup [.tr (tb true), .tr (tb true), .tr (tb false), .tr (tb false)])) [] := z_uses 2
  refine Ctr.of hT hmix Tryz.func58 rfl (fun _ _ => by kernel_rfl) rfl fun hok => ?_
  clear hok
  conv => whnf
  refine acall.au [0] [] (c0) ?_
  intro _
  conv => whnf
  rw [hk]
  conv => whnf
  have htw := z_two (IntKind.u8.wrap n1)
  rw [h2] at htw
  refine acall.au [0] [] (c1) ?_
  intro _
  conv => whnf
  refine acall.pure _ (hu) rfl rfl fun _ => ?_
  conv => whnf
  refine acall.au [0] [] (c2) ?_
  intro _
  conv => whnf
  refine acall.au [0] [] (c3) ?_
  intro _
  conv => whnf
  refine acall.pure _ (htw) rfl rfl fun _ => ?_
  conv => whnf
  refine acall.au [0] [] (c4) ?_
  intro _
  conv => whnf
  exact aut

theorem numZ_pos : ∀ (f k : Nat) (n : Int) (r : Rz), 0 ≤ (numZ f k n r).1
  | 0, _, _, _ => Int.le_refl _
  | f + 1, k, n, ⟨b, a, bad⟩ => by
    cases hc : b[a]? with
    | none =>
      have e : numZ (f + 1) k n ⟨b, a, bad⟩ = (0, ⟨b, a, true⟩) := by simp only [numZ, hc]
      rw [e]
      exact Int.le_refl _
    | some c =>
      rw [numZ_at hc]
      cases ((k : Int) == 9) && decide ((c.toNat : Int) > 1)
      · cases decide ((c.toNat : Int) < 128)
        · exact numZ_pos f (k + 1) _ _
        · exact (u64_wrap _).1
      · exact Int.le_refl _
theorem smallZ_rng {most : Int} (h0 : 0 ≤ most) (h1 : most ≤ 9223372036854775807) (r : Rz) : 0 ≤ (smallZ most r).1 ∧ (smallZ most r).1 ≤ most := by
  have hp : 0 ≤ (nuZ r).1 := numZ_pos 10 0 0 r
  unfold smallZ
  cases h : decide ((nuZ r).1 > IntKind.u64.wrap most)
  · have h := of_decide_eq_false h
    rw [wu64 h0 (by omega)] at h
    simp only [cond_false]
    rw [w64 (by omega) (by omega)]
    omega
  · exact ⟨Int.le_refl _, h0⟩
theorem z_ins (code mem : Int) (r : Rz) (hr : r.ok) : K 58 [.ptr 0 0, .tr (ti code), .tr (ti mem)] [r.blk] (.ret (insZ code mem r).1.av) [some (insZ code mem r).2.blk] := by
  have hg := smallZ_rng (most := 11) (by decide) (by decide) r
  have hw : IntKind.u8.wrap (smallZ 11 r).1 = (smallZ 11 r).1 := by
    obtain ⟨n, hn⟩ := Int.eq_ofNat_of_zero_le hg.1
    rw [hn, wu8n]
    omega
  have hc : IntKind.u8.wrap (smallZ 11 r).1 = 0 ∨ IntKind.u8.wrap (smallZ 11 r).1 = 1 ∨ IntKind.u8.wrap (smallZ 11 r).1 = 2 ∨ IntKind.u8.wrap (smallZ 11 r).1 = 3 ∨ IntKind.u8.wrap (smallZ 11 r).1 = 4 ∨ IntKind.u8.wrap (smallZ 11 r).1 = 5 ∨ IntKind.u8.wrap (smallZ 11 r).1 = 6 ∨ IntKind.u8.wrap (smallZ 11 r).1 = 7 ∨ IntKind.u8.wrap (smallZ 11 r).1 = 8 ∨ IntKind.u8.wrap (smallZ 11 r).1 = 9 ∨ IntKind.u8.wrap (smallZ 11 r).1 = 10 ∨ IntKind.u8.wrap (smallZ 11 r).1 = 11 := by rw [hw]; omega
  clear hw hg
  rcases hc with h | h | h | h | h | h | h | h | h | h | h | h
  · exact z_ins0 code mem r hr h
  · exact z_ins1 code mem r hr h
  · cases h2 : two (IntKind.u8.wrap (smallZ 19 (smallZ 11 r).2).1)
    · exact z_ins2f code mem r hr h h2
    · exact z_ins2t code mem r hr h h2
  · exact z_ins3 code mem r hr h
  · exact z_ins4 code mem r hr h
  · exact z_ins5 code mem r hr h
  · exact z_ins6 code mem r hr h
  · exact z_ins7 code mem r hr h
  · exact z_ins8 code mem r hr h
  · exact z_ins9 code mem r hr h
  · exact z_ins10 code mem r hr h
  · exact z_ins11 code mem r hr h
theorem mayZ_ok {c : Bool} {f : Rz → Int × Rz} (hf : ∀ r : Rz, r.ok → (f r).2.ok ∧ (f r).2.b = r.b) {r : Rz} (h : r.ok) : (mayZ c f r).2.ok ∧ (mayZ c f r).2.b = r.b := by
  cases c
  · exact ⟨h, rfl⟩
  · exact hf r h
theorem insZ_ok (code mem : Int) {r : Rz} (h : r.ok) : (insZ code mem r).2.ok ∧ (insZ code mem r).2.b = r.b := by
  have hs := fun (most : Int) (r : Rz) (h : r.ok) => smallZ_ok most h
  have hw := fun (r : Rz) (h : r.ok) => wordZ_ok h
  have e1 := smallZ_ok 11 h
  have e2 := mayZ_ok (c := IntKind.u8.wrap (smallZ 11 r).1 == 2) (hs 19) e1.1
  have e3 := mayZ_ok (c := useD (IntKind.u8.wrap (smallZ 11 r).1)) (hs 16) e2.1
  have e4 := mayZ_ok (c := useA (IntKind.u8.wrap (smallZ 11 r).1)) (hs 16) e3.1
  have e5 := mayZ_ok (c := IntKind.u8.wrap (smallZ 11 r).1 == 2 && two (IntKind.u8.wrap (mayZ (IntKind.u8.wrap (smallZ 11 r).1 == 2) (smallZ 19) (smallZ 11 r).2).1)) (hs 16) e4.1
  have e6 := mayZ_ok (c := IntKind.u8.wrap (smallZ 11 r).1 == 1) hw e5.1
  have e7 := mayZ_ok (c := useM (IntKind.u8.wrap (smallZ 11 r).1)) (hs mem) e6.1
  have e8 := mayZ_ok (c := useT (IntKind.u8.wrap (smallZ 11 r).1)) (hs code) e7.1
  have e9 := smallZ_ok 4096 e8.1
  exact ⟨e9.1, e9.2.trans (e8.2.trans (e7.2.trans (e6.2.trans (e5.2.trans (e4.2.trans (e3.2.trans (e2.2.trans e1.2)))))))⟩
end Go.Proofs.YtffhoknkfohfgaaGreatDoor.am

namespace Go.Proofs.YtffhoknkfohfgaaGreatDoor.am
open Go Go.Proofs
theorem and127B : ((List.range 256).all fun k => decide (IntKind.u64.wrap (IntKind.u8.wrap ((BitVec.ofInt IntKind.u8.bits ((k : Nat) : Int) &&& BitVec.ofInt IntKind.u8.bits 127).toNat : Int)) = (k % 128 : Nat))) = true := by kernel_rfl
theorem shlZ_eq {c : UInt8} {k : Nat} (hk : k ≤ 9) (hc : k = 9 → c.toNat ≤ 1) : shlZ c k = ((c.toNat % 128 * 128 ^ k : Nat) : Int) ∧ c.toNat % 128 * 128 ^ k < 18446744073709551616 := by
  have h8 := c.toNat_lt
  have hlt : c.toNat % 128 * 128 ^ k < 18446744073709551616 := (shlD_eq hk hc).2
  refine ⟨?_, hlt⟩
  unfold shlZ
  rw [of_decide_eq_true (List.all_eq_true.1 and127B c.toNat (List.mem_range.2 (by omega))), w64 (by omega) (by omega), wu64 (z := 7 * (k : Int)) (by omega) (by omega), show min (7 * (k : Int)).toNat IntKind.u64.bits = 7 * k by show min (7 * (k : Int)).toNat 64 = _; omega]
  have e : (((c.toNat % 128 : Nat) : Int) * 2 ^ (7 * k)) = ((c.toNat % 128 * 128 ^ k : Nat) : Int) := by rw [pow128]; norm_cast
  rw [e, u64_id (by omega) (by omega)]
theorem numZ_eq (b : List UInt8) (bad : Bool) : ∀ (f k a at_ : Nat), f + k = 10 → a < 128 ^ k → at_ ≤ b.length → match nO f k a (b.drop at_) with
    | none => (numZ f k a ⟨b, at_, bad⟩).2.bad = true
    | some (m, r) => ∃ at', numZ f k a ⟨b, at_, bad⟩ = ((m : Int), ⟨b, at', bad⟩) ∧ b.drop at' = r ∧ at' ≤ b.length
  | 0, _, _, _, _, _, _ => rfl
  | f + 1, k, a, at_, hk, ha, hat => by
    by_cases hlt : at_ < b.length
    · obtain ⟨c, hc⟩ : ∃ c, b[at_]? = some c := ⟨b[at_], by simp [hlt]⟩
      rw [drop_cons hc, numZ_at hc]
      unfold nO
      by_cases hb : (k = 9 ∧ 1 < c.toNat) ∨ (0 < k ∧ c.toNat = 0)
      · rw [if_pos hb]
        rcases hb with ⟨h1, h2⟩ | ⟨h1, h2⟩
        · rw [show ((k : Int) == 9) = true by rw [h1]; rfl, show decide ((c.toNat : Int) > 1) = true from decide_eq_true (by omega)]; rfl
        · rw [show decide ((c.toNat : Int) > 1) = false from decide_eq_false (by omega), Bool.and_false, show decide ((c.toNat : Int) < 128) = true from decide_eq_true (by omega), show decide ((k : Int) > 0) = true from decide_eq_true (by omega), show ((c.toNat : Int) == 0) = true by rw [h2]; rfl]
          rfl
      · rw [if_neg hb]
        have e1 : (((k : Int) == 9) && decide ((c.toNat : Int) > 1)) = false := by
          rw [Bool.and_eq_false_iff]
          by_cases h : k = 9
          · exact .inr (decide_eq_false (by omega))
          · exact .inl (beq_eq_false_iff_ne.2 (by omega))
        have e2 : (((c.toNat : Int) == 0) && decide ((k : Int) > 0)) = false := by
          rw [Bool.and_eq_false_iff]
          by_cases h : 0 < k
          · exact .inl (beq_eq_false_iff_ne.2 (by omega))
          · exact .inr (decide_eq_false (by omega))
        have hs := shlZ_eq (c := c) (k := k) (by omega) (fun h => by omega)
        have ho := orI_eq ha hs.2 (by omega)
        rw [e1, e2, hs.1, ho.1]
        by_cases h : c.toNat < 128
        · rw [if_pos h, show decide ((c.toNat : Int) < 128) = true from decide_eq_true (by omega), Nat.mod_eq_of_lt h]
          exact ⟨at_ + 1, rfl, rfl, hlt⟩
        · rw [if_neg h, show decide ((c.toNat : Int) < 128) = false from decide_eq_false (by omega)]
          exact numZ_eq b bad f (k + 1) _ (at_ + 1) (by omega) (ho.2.1 (Nat.mod_lt _ (by decide))) hlt
    · rw [List.drop_eq_nil_of_le (by omega), numZ_end (by omega)]
      rfl
theorem nuZ_eq {b : List UInt8} {at_ : Nat} (bad : Bool) (h : at_ ≤ b.length) : match numO (b.drop at_) with
    | none => (nuZ ⟨b, at_, bad⟩).2.bad = true
    | some (m, r) => ∃ at', nuZ ⟨b, at_, bad⟩ = ((m : Int), ⟨b, at', bad⟩) ∧ b.drop at' = r ∧ at' ≤ b.length := numZ_eq b bad 10 0 0 at_ rfl (by decide) h
/-- a step of the reference's reader reads what q reads, or it is bad -/
def Lk {α β : Type} (s : Rz → α × Rz) (q : PO β) (f : β → α) : Prop := ∀ (b : List UInt8) (at_ : Nat) (bad : Bool), at_ ≤ b.length → match q (b.drop at_) with
    | none => (s ⟨b, at_, bad⟩).2.bad = true
    | some (m, r) => ∃ at', s ⟨b, at_, bad⟩ = (f m, ⟨b, at', bad⟩) ∧ b.drop at' = r ∧ at' ≤ b.length
theorem lk_num : Lk nuZ numO (fun n : Nat => (n : Int)) := by
  intro b at_ bad h
  have hn := nuZ_eq bad h
  cases hq : numO (b.drop at_) with
  | none => rw [hq] at hn; exact hn
  | some p => rw [hq] at hn; exact hn
theorem lk_small (most : Nat) (hm : most < 9223372036854775808) : Lk (smallZ most) (smallO most) (fun n : Nat => (n : Int)) := by
  intro b at_ bad h
  have hn := lk_num b at_ bad h
  unfold smallO smallZ
  rw [wu64 (z := (most : Int)) (by omega) (by omega)]
  cases hq : numO (b.drop at_) with
  | none =>
    rw [hq] at hn
    cases decide ((nuZ ⟨b, at_, bad⟩).1 > (most : Int))
    · exact hn
    · rfl
  | some p =>
    obtain ⟨n, l'⟩ := p
    rw [hq] at hn
    obtain ⟨a', e1, e2, e3⟩ := hn
    rw [e1]
    by_cases hle : n ≤ most
    · simp only [if_pos hle, show decide ((n : Int) > (most : Int)) = false from decide_eq_false (by omega), cond_false]
      exact ⟨a', by rw [w64 (by omega) (by omega)], e2, e3⟩
    · simp only [if_neg hle, show decide ((n : Int) > (most : Int)) = true from decide_eq_true (by omega), cond_true]
theorem notZ_eq {n : Nat} (h : n < 9223372036854775808) : notZ (n : Int) = -(n : Int) - 1 := by
  unfold notZ
  rw [show BitVec.ofInt IntKind.i64.bits (if IntKind.i64.signed = true then -1 else IntKind.i64.max) = BitVec.allOnes IntKind.i64.bits by kernel_rfl]
  show IntKind.i64.wrap ((BitVec.allOnes 64 ^^^ BitVec.ofInt 64 (n : Int)).toNat : Int) = _
  rw [ofInt_nat, BitVec.allOnes_xor, BitVec.toNat_not, BitVec.toNat_ofNat, Nat.mod_eq_of_lt (by omega)]
  obtain ⟨y, hy, hy2⟩ : ∃ y : Nat, 2 ^ 64 - 1 - n = y ∧ y + n + 1 = 18446744073709551616 := ⟨_, rfl, by omega⟩
  have hz : IntKind.i64.wrap (y : Int) = (y : Int) - 18446744073709551616 := by
    simp only [IntKind.wrap, IntKind.signed, IntKind.bits, Bool.true_and, Int.reducePow]
    split
    · omega
    · rename_i hh
      exact absurd (by simp; omega) hh
  rw [hy, hz]
  omega
theorem unzZ_eq {n : Nat} (h : n < 18446744073709551616) : (bif oddZ n then notZ (shrZ n) else shrZ n) = unzN n := by
  have h1 : shrZ (n : Int) = ((n / 2 : Nat) : Int) := by
    unfold shrZ
    rw [show min (1 : Int).toNat IntKind.u64.bits = 1 from rfl, Int.fdiv_eq_ediv_of_nonneg _ (by decide), w64 (by omega) (by omega)]; omega
  have h2 : oddZ (n : Int) = (((n % 2 : Nat) : Int) == 1) := by
    unfold oddZ
    rw [show IntKind.u64.bits = 64 from rfl, show (1 : Int) = ((1 : Nat) : Int) from rfl, ofInt_nat, ofInt_nat, BitVec.toNat_and, BitVec.toNat_ofNat, BitVec.toNat_ofNat, Nat.mod_eq_of_lt h, show 1 % 2 ^ 64 = 1 from rfl, Nat.and_one_is_mod, u64_id (by omega) (by omega)]
  rw [h1, h2, notZ_eq (by omega)]
  unfold unzN
  by_cases h0 : n % 2 = 0
  · rw [if_pos h0, h0]; rfl
  · rw [if_neg h0, show n % 2 = 1 by omega]; rfl
theorem lk_word : Lk wordZ wordO id := by
  intro b at_ bad h
  have hn := lk_num b at_ bad h
  unfold wordO wordZ
  cases hq : numO (b.drop at_) with
  | none => rw [hq] at hn; exact hn
  | some p =>
    obtain ⟨n, l'⟩ := p
    rw [hq] at hn
    obtain ⟨a', e1, e2, e3⟩ := hn
    rw [e1]
    exact ⟨a', by simp only [unzZ_eq (numO_inv hq).1, id], e2, e3⟩
theorem Lk.bad {α β : Type} {s : Rz → α × Rz} {q : PO β} {f : β → α} (h : Lk s q f) {b : List UInt8} {at_ : Nat} (ha : at_ ≤ b.length) : (s ⟨b, at_, true⟩).2.bad = true := by
  have := h b at_ true ha
  cases hq : q (b.drop at_) with
  | none => rw [hq] at this; exact this
  | some p =>
    rw [hq] at this
    obtain ⟨a', e, _, _⟩ := this
    rw [e]
theorem lk_ret {α : Type} (a : α) : Lk (fun r => (a, r)) (fun l => some (a, l)) id := fun _ at_ _ h => ⟨at_, rfl, rfl, h⟩
theorem lk_may {α : Type} {s : Rz → Int × Rz} {q : PO α} {f : α → Int} {c : Bool} {z : α} (h : Lk s q f) (hz : f z = 0) : Lk (mayZ c s) (bif c then q else fun l => some (z, l)) f := by
  cases c
  · exact fun _ at_ _ h => ⟨at_, by show ((0 : Int), _) = _; rw [hz], rfl, h⟩
  · exact h
/-- a step and what follows it; what follows stays bad, and keeps within the bytes -/
theorem lk_bind {α β γ δ : Type} {s : Rz → α × Rz} {q : PO β} {f : β → α} {s' : α → Rz → γ × Rz} {q' : β → PO δ} {f' : δ → γ} (h : Lk s q f) (hk : ∀ r : Rz, r.ok → (s r).2.ok ∧ (s r).2.b = r.b) (h' : ∀ m, Lk (s' (f m)) (q' m) f') (hb : ∀ a (r : Rz), r.ok → r.bad = true → (s' a r).2.bad = true) :
    Lk (fun r => s' (s r).1 (s r).2) (fun l => match q l with | none => none | some (m, l') => q' m l') f' := by
  intro b at_ bad ha
  have h1 := h b at_ bad ha
  have h2 := hk ⟨b, at_, bad⟩ ha
  simp only
  cases hq : q (b.drop at_) with
  | none =>
    rw [hq] at h1
    exact hb _ _ h2.1 h1
  | some p =>
    obtain ⟨m, l'⟩ := p
    rw [hq] at h1
    obtain ⟨a', e1, e2, e3⟩ := h1
    have h3 := h' m b a' bad e3
    rw [e2] at h3
    rw [e1]
    simp only
    cases hq2 : q' m l' with
    | none => rw [hq2] at h3; exact h3
    | some p2 => rw [hq2] at h3; exact h3
theorem lk_congr {α β : Type} {s s' : Rz → α × Rz} {q q' : PO β} {f f' : β → α} (h : Lk s q f) (hs : ∀ r, s' r = s r) (hq : ∀ l, q' l = q l) (hf : ∀ m, f' m = f m) : Lk s' q' f' := by
  have e1 : s' = s := funext hs
  have e2 : q' = q := funext hq
  have e3 : f' = f := funext hf
  rw [e1, e2, e3]
  exact h
/-! what is bad stays bad -/
theorem nuZ_bad {r : Rz} (hr : r.ok) (h : r.bad = true) : (nuZ r).2.bad = true := by
  obtain ⟨b, a, x⟩ := r
  obtain rfl : x = true := h
  exact lk_num.bad hr
theorem smallZ_bad (most : Int) {r : Rz} (hr : r.ok) (h : r.bad = true) : (smallZ most r).2.bad = true := by
  unfold smallZ
  cases decide ((nuZ r).1 > IntKind.u64.wrap most)
  · exact nuZ_bad hr h
  · rfl
theorem wordZ_bad {r : Rz} (hr : r.ok) (h : r.bad = true) : (wordZ r).2.bad = true := nuZ_bad hr h
theorem mayZ_bad {c : Bool} {f : Rz → Int × Rz} (hf : ∀ r : Rz, r.ok → r.bad = true → (f r).2.bad = true) {r : Rz} (hr : r.ok) (h : r.bad = true) : (mayZ c f r).2.bad = true := by
  cases c
  · exact h
  · exact hf r hr h
/-- a step that keeps within the bytes and stays bad -/
structure Kp {α : Type} (s : Rz → α × Rz) : Prop where
  ok : ∀ r : Rz, r.ok → (s r).2.ok ∧ (s r).2.b = r.b
  bad : ∀ r : Rz, r.ok → r.bad = true → (s r).2.bad = true
theorem kp_small (most : Int) : Kp (smallZ most) := ⟨fun _ h => smallZ_ok most h, fun _ h => smallZ_bad most h⟩
theorem kp_word : Kp wordZ := ⟨fun _ h => wordZ_ok h, fun _ h => wordZ_bad h⟩
theorem kp_may {c : Bool} {f : Rz → Int × Rz} (hf : Kp f) : Kp (mayZ c f) := ⟨fun _ h => mayZ_ok hf.ok h, fun _ h => mayZ_bad hf.bad h⟩
theorem kp_ret {α : Type} (a : α) : Kp (fun r => (a, r)) := ⟨fun _ h => ⟨h, rfl⟩, fun _ _ h => h⟩
theorem kp_bind {α γ : Type} {s : Rz → α × Rz} {s' : α → Rz → γ × Rz} (h : Kp s) (h' : ∀ a, Kp (s' a)) : Kp (fun r => s' (s r).1 (s r).2) :=
  ⟨fun r hr => ⟨((h' _).ok _ (h.ok r hr).1).1, ((h' _).ok _ (h.ok r hr).1).2.trans (h.ok r hr).2⟩, fun r hr hb => (h' _).bad _ (h.ok r hr).1 (h.bad r hr hb)⟩
theorem insZ_bad (code mem : Int) {r : Rz} (h : r.ok) (hb : r.bad = true) : (insZ code mem r).2.bad = true := by
  have hs := fun (most : Int) => (kp_small most).ok
  have bs := fun (most : Int) => (kp_small most).bad
  have e1 := smallZ_ok 11 h
  have b1 := smallZ_bad 11 h hb
  have e2 := mayZ_ok (c := IntKind.u8.wrap (smallZ 11 r).1 == 2) (hs 19) e1.1
  have b2 := mayZ_bad (c := IntKind.u8.wrap (smallZ 11 r).1 == 2) (bs 19) e1.1 b1
  have e3 := mayZ_ok (c := useD (IntKind.u8.wrap (smallZ 11 r).1)) (hs 16) e2.1
  have b3 := mayZ_bad (c := useD (IntKind.u8.wrap (smallZ 11 r).1)) (bs 16) e2.1 b2
  have e4 := mayZ_ok (c := useA (IntKind.u8.wrap (smallZ 11 r).1)) (hs 16) e3.1
  have b4 := mayZ_bad (c := useA (IntKind.u8.wrap (smallZ 11 r).1)) (bs 16) e3.1 b3
  have e5 := mayZ_ok (c := IntKind.u8.wrap (smallZ 11 r).1 == 2 && two (IntKind.u8.wrap (mayZ (IntKind.u8.wrap (smallZ 11 r).1 == 2) (smallZ 19) (smallZ 11 r).2).1)) (hs 16) e4.1
  have b5 := mayZ_bad (c := IntKind.u8.wrap (smallZ 11 r).1 == 2 && two (IntKind.u8.wrap (mayZ (IntKind.u8.wrap (smallZ 11 r).1 == 2) (smallZ 19) (smallZ 11 r).2).1)) (bs 16) e4.1 b4
  have e6 := mayZ_ok (c := IntKind.u8.wrap (smallZ 11 r).1 == 1) kp_word.ok e5.1
  have b6 := mayZ_bad (c := IntKind.u8.wrap (smallZ 11 r).1 == 1) kp_word.bad e5.1 b5
  have e7 := mayZ_ok (c := useM (IntKind.u8.wrap (smallZ 11 r).1)) (hs mem) e6.1
  have b7 := mayZ_bad (c := useM (IntKind.u8.wrap (smallZ 11 r).1)) (bs mem) e6.1 b6
  have e8 := mayZ_ok (c := useT (IntKind.u8.wrap (smallZ 11 r).1)) (hs code) e7.1
  have b8 := mayZ_bad (c := useT (IntKind.u8.wrap (smallZ 11 r).1)) (bs code) e7.1 b7
  exact smallZ_bad 4096 e8.1 b8
theorem kp_ins (code mem : Int) : Kp (insZ code mem) := ⟨fun _ h => insZ_ok code mem h, fun _ h hb => insZ_bad code mem h hb⟩
end Go.Proofs.YtffhoknkfohfgaaGreatDoor.am

namespace Go.Proofs.YtffhoknkfohfgaaGreatDoor.am
open Go Go.Proofs
def bindO {α β : Type} (q : PO α) (q' : α → PO β) : PO β := fun l => match q l with | none => none | some (m, l') => q' m l'
abbrev mayO {α : Type} (c : Bool) (q : PO α) (z : α) : PO α := bif c then q else fun l => some (z, l)
theorem lk_bindO {α β γ δ : Type} {s : Rz → α × Rz} {q : PO β} {f : β → α} {s' : α → Rz → γ × Rz} {q' : β → PO δ} {f' : δ → γ} (h : Lk s q f) (k : Kp s) (h' : ∀ m, Lk (s' (f m)) (q' m) f') (k' : ∀ a, Kp (s' a)) :
    Lk (fun r => s' (s r).1 (s r).2) (bindO q q') f' := lk_bind h k.ok h' fun a r => (k' a).bad r
theorem bindO_none {α β : Type} {q : PO α} {q' : α → PO β} {l : List UInt8} (h : q l = none) : bindO q q' l = none := by unfold bindO; rw [h]
theorem bindO_some {α β : Type} {q : PO α} {q' : α → PO β} {l l' : List UInt8} {a : α} (h : q l = some (a, l')) : bindO q q' l = q' a l' := by unfold bindO; rw [h]
def j9 (K O d a b w m t f : Int) : Rz → Ins × Rz := fun r => (⟨K, O, d, a, b, m, t, w, f⟩, r)
def q9 (K O d a b w m t f : Int) : PO Ins := fun l => some (⟨K, O, d, a, b, m, t, w, f⟩, l)
theorem kp_j9 (K O d a b w m t f : Int) : Kp (j9 K O d a b w m t f) := kp_ret _
theorem lk_j9 (K O d a b w m t f : Int) : Lk (j9 K O d a b w m t f) (q9 K O d a b w m t f) id := lk_ret _
def j8 (code mem : Int) (K O d a b w m t : Int) : Rz → Ins × Rz := fun r => j9 K O d a b w m t (smallZ 4096 r).1 (smallZ 4096 r).2
def q8 (code mem : Nat) (K O d a b w m t : Int) : PO Ins := bindO (smallO 4096) fun f => q9 K O d a b w m t (f : Int)
theorem kp_j8 (code mem : Int) (K O d a b w m t : Int) : Kp (j8 code mem K O d a b w m t) := kp_bind (s := smallZ 4096) (s' := fun f => j9 K O d a b w m t f) (kp_small _) fun f => kp_j9 K O d a b w m t f
theorem lk_j8 (code mem : Nat) (hc : code < 9223372036854775808) (hm : mem < 9223372036854775808) (K O d a b w m t : Int) : Lk (j8 ((code : Nat) : Int) ((mem : Nat) : Int) K O d a b w m t) (q8 code mem K O d a b w m t) id :=
  lk_bindO (s := smallZ 4096) (q := smallO 4096) (f := (fun n : Nat => (n : Int))) (s' := fun f => j9 K O d a b w m t f) (q' := fun f : Nat => q9 K O d a b w m t (f : Int)) (lk_small 4096 (by decide)) (kp_small _) (fun f => lk_j9 K O d a b w m t (f : Int)) (fun f => kp_j9 K O d a b w m t f)
def j7 (code mem : Int) (K O d a b w m : Int) : Rz → Ins × Rz := fun r => j8 code mem K O d a b w m (mayZ (useT K) (smallZ code) r).1 (mayZ (useT K) (smallZ code) r).2
def q7 (code mem : Nat) (K O d a b w m : Int) : PO Ins := bindO (mayO (useT K) (smallO code) 0) fun t => q8 code mem K O d a b w m (t : Int)
theorem kp_j7 (code mem : Int) (K O d a b w m : Int) : Kp (j7 code mem K O d a b w m) := kp_bind (s := mayZ (useT K) (smallZ code)) (s' := fun t => j8 code mem K O d a b w m t) (kp_may (kp_small _)) fun t => kp_j8 code mem K O d a b w m t
theorem lk_j7 (code mem : Nat) (hc : code < 9223372036854775808) (hm : mem < 9223372036854775808) (K O d a b w m : Int) : Lk (j7 ((code : Nat) : Int) ((mem : Nat) : Int) K O d a b w m) (q7 code mem K O d a b w m) id :=
  lk_bindO (s := mayZ (useT K) (smallZ ((code : Nat) : Int))) (q := mayO (useT K) (smallO code) 0) (f := (fun n : Nat => (n : Int))) (s' := fun t => j8 ((code : Nat) : Int) ((mem : Nat) : Int) K O d a b w m t) (q' := fun t : Nat => q8 code mem K O d a b w m (t : Int)) (lk_may (lk_small code hc) rfl) (kp_may (kp_small _)) (fun t => lk_j8 code mem hc hm K O d a b w m (t : Int)) (fun t => kp_j8 ((code : Nat) : Int) ((mem : Nat) : Int) K O d a b w m t)
def j6 (code mem : Int) (K O d a b w : Int) : Rz → Ins × Rz := fun r => j7 code mem K O d a b w (mayZ (useM K) (smallZ mem) r).1 (mayZ (useM K) (smallZ mem) r).2
def q6 (code mem : Nat) (K O d a b w : Int) : PO Ins := bindO (mayO (useM K) (smallO mem) 0) fun m => q7 code mem K O d a b w (m : Int)
theorem kp_j6 (code mem : Int) (K O d a b w : Int) : Kp (j6 code mem K O d a b w) := kp_bind (s := mayZ (useM K) (smallZ mem)) (s' := fun m => j7 code mem K O d a b w m) (kp_may (kp_small _)) fun m => kp_j7 code mem K O d a b w m
theorem lk_j6 (code mem : Nat) (hc : code < 9223372036854775808) (hm : mem < 9223372036854775808) (K O d a b w : Int) : Lk (j6 ((code : Nat) : Int) ((mem : Nat) : Int) K O d a b w) (q6 code mem K O d a b w) id :=
  lk_bindO (s := mayZ (useM K) (smallZ ((mem : Nat) : Int))) (q := mayO (useM K) (smallO mem) 0) (f := (fun n : Nat => (n : Int))) (s' := fun m => j7 ((code : Nat) : Int) ((mem : Nat) : Int) K O d a b w m) (q' := fun m : Nat => q7 code mem K O d a b w (m : Int)) (lk_may (lk_small mem hm) rfl) (kp_may (kp_small _)) (fun m => lk_j7 code mem hc hm K O d a b w (m : Int)) (fun m => kp_j7 ((code : Nat) : Int) ((mem : Nat) : Int) K O d a b w m)
def j5 (code mem : Int) (K O d a b : Int) : Rz → Ins × Rz := fun r => j6 code mem K O d a b (mayZ (K == 1) wordZ r).1 (mayZ (K == 1) wordZ r).2
def q5 (code mem : Nat) (K O d a b : Int) : PO Ins := bindO (mayO (K == 1) wordO 0) fun w => q6 code mem K O d a b w
theorem kp_j5 (code mem : Int) (K O d a b : Int) : Kp (j5 code mem K O d a b) := kp_bind (s := mayZ (K == 1) wordZ) (s' := fun w => j6 code mem K O d a b w) (kp_may kp_word) fun w => kp_j6 code mem K O d a b w
theorem lk_j5 (code mem : Nat) (hc : code < 9223372036854775808) (hm : mem < 9223372036854775808) (K O d a b : Int) : Lk (j5 ((code : Nat) : Int) ((mem : Nat) : Int) K O d a b) (q5 code mem K O d a b) id :=
  lk_bindO (s := mayZ (K == 1) wordZ) (q := mayO (K == 1) wordO 0) (f := id) (s' := fun w => j6 ((code : Nat) : Int) ((mem : Nat) : Int) K O d a b w) (q' := fun w : Int => q6 code mem K O d a b w) (lk_may lk_word rfl) (kp_may kp_word) (fun w => lk_j6 code mem hc hm K O d a b w) (fun w => kp_j6 ((code : Nat) : Int) ((mem : Nat) : Int) K O d a b w)
def j4 (code mem : Int) (K O d a : Int) : Rz → Ins × Rz := fun r => j5 code mem K O d a (mayZ (K == 2 && two O) (smallZ 16) r).1 (mayZ (K == 2 && two O) (smallZ 16) r).2
def q4 (code mem : Nat) (K O d a : Int) : PO Ins := bindO (mayO (K == 2 && two O) (smallO 16) 0) fun b => q5 code mem K O d a (b : Int)
theorem kp_j4 (code mem : Int) (K O d a : Int) : Kp (j4 code mem K O d a) := kp_bind (s := mayZ (K == 2 && two O) (smallZ 16)) (s' := fun b => j5 code mem K O d a b) (kp_may (kp_small _)) fun b => kp_j5 code mem K O d a b
theorem lk_j4 (code mem : Nat) (hc : code < 9223372036854775808) (hm : mem < 9223372036854775808) (K O d a : Int) : Lk (j4 ((code : Nat) : Int) ((mem : Nat) : Int) K O d a) (q4 code mem K O d a) id :=
  lk_bindO (s := mayZ (K == 2 && two O) (smallZ 16)) (q := mayO (K == 2 && two O) (smallO 16) 0) (f := (fun n : Nat => (n : Int))) (s' := fun b => j5 ((code : Nat) : Int) ((mem : Nat) : Int) K O d a b) (q' := fun b : Nat => q5 code mem K O d a (b : Int)) (lk_may (lk_small 16 (by decide)) rfl) (kp_may (kp_small _)) (fun b => lk_j5 code mem hc hm K O d a (b : Int)) (fun b => kp_j5 ((code : Nat) : Int) ((mem : Nat) : Int) K O d a b)
def j3 (code mem : Int) (K O d : Int) : Rz → Ins × Rz := fun r => j4 code mem K O d (mayZ (useA K) (smallZ 16) r).1 (mayZ (useA K) (smallZ 16) r).2
def q3 (code mem : Nat) (K O d : Int) : PO Ins := bindO (mayO (useA K) (smallO 16) 0) fun a => q4 code mem K O d (a : Int)
theorem kp_j3 (code mem : Int) (K O d : Int) : Kp (j3 code mem K O d) := kp_bind (s := mayZ (useA K) (smallZ 16)) (s' := fun a => j4 code mem K O d a) (kp_may (kp_small _)) fun a => kp_j4 code mem K O d a
theorem lk_j3 (code mem : Nat) (hc : code < 9223372036854775808) (hm : mem < 9223372036854775808) (K O d : Int) : Lk (j3 ((code : Nat) : Int) ((mem : Nat) : Int) K O d) (q3 code mem K O d) id :=
  lk_bindO (s := mayZ (useA K) (smallZ 16)) (q := mayO (useA K) (smallO 16) 0) (f := (fun n : Nat => (n : Int))) (s' := fun a => j4 ((code : Nat) : Int) ((mem : Nat) : Int) K O d a) (q' := fun a : Nat => q4 code mem K O d (a : Int)) (lk_may (lk_small 16 (by decide)) rfl) (kp_may (kp_small _)) (fun a => lk_j4 code mem hc hm K O d (a : Int)) (fun a => kp_j4 ((code : Nat) : Int) ((mem : Nat) : Int) K O d a)
def j2 (code mem : Int) (K O : Int) : Rz → Ins × Rz := fun r => j3 code mem K O (mayZ (useD K) (smallZ 16) r).1 (mayZ (useD K) (smallZ 16) r).2
def q2 (code mem : Nat) (K O : Int) : PO Ins := bindO (mayO (useD K) (smallO 16) 0) fun d => q3 code mem K O (d : Int)
theorem kp_j2 (code mem : Int) (K O : Int) : Kp (j2 code mem K O) := kp_bind (s := mayZ (useD K) (smallZ 16)) (s' := fun d => j3 code mem K O d) (kp_may (kp_small _)) fun d => kp_j3 code mem K O d
theorem lk_j2 (code mem : Nat) (hc : code < 9223372036854775808) (hm : mem < 9223372036854775808) (K O : Int) : Lk (j2 ((code : Nat) : Int) ((mem : Nat) : Int) K O) (q2 code mem K O) id :=
  lk_bindO (s := mayZ (useD K) (smallZ 16)) (q := mayO (useD K) (smallO 16) 0) (f := (fun n : Nat => (n : Int))) (s' := fun d => j3 ((code : Nat) : Int) ((mem : Nat) : Int) K O d) (q' := fun d : Nat => q3 code mem K O (d : Int)) (lk_may (lk_small 16 (by decide)) rfl) (kp_may (kp_small _)) (fun d => lk_j3 code mem hc hm K O (d : Int)) (fun d => kp_j3 ((code : Nat) : Int) ((mem : Nat) : Int) K O d)
def j1 (code mem : Int) (K : Int) : Rz → Ins × Rz := fun r => j2 code mem K (IntKind.u8.wrap (mayZ (K == 2) (smallZ 19) r).1) (mayZ (K == 2) (smallZ 19) r).2
def q1 (code mem : Nat) (K : Int) : PO Ins := bindO (mayO (K == 2) (smallO 19) 0) fun O0 => q2 code mem K (IntKind.u8.wrap (O0 : Int))
theorem kp_j1 (code mem : Int) (K : Int) : Kp (j1 code mem K) := kp_bind (s := mayZ (K == 2) (smallZ 19)) (s' := fun O0 => j2 code mem K (IntKind.u8.wrap O0)) (kp_may (kp_small _)) fun O0 => kp_j2 code mem K (IntKind.u8.wrap O0)
theorem lk_j1 (code mem : Nat) (hc : code < 9223372036854775808) (hm : mem < 9223372036854775808) (K : Int) : Lk (j1 ((code : Nat) : Int) ((mem : Nat) : Int) K) (q1 code mem K) id :=
  lk_bindO (s := mayZ (K == 2) (smallZ 19)) (q := mayO (K == 2) (smallO 19) 0) (f := (fun n : Nat => (n : Int))) (s' := fun O0 => j2 ((code : Nat) : Int) ((mem : Nat) : Int) K (IntKind.u8.wrap O0)) (q' := fun O0 : Nat => q2 code mem K (IntKind.u8.wrap (O0 : Int))) (lk_may (lk_small 19 (by decide)) rfl) (kp_may (kp_small _)) (fun O0 => lk_j2 code mem hc hm K (IntKind.u8.wrap (O0 : Int))) (fun O0 => kp_j2 ((code : Nat) : Int) ((mem : Nat) : Int) K (IntKind.u8.wrap O0))
def j0 (code mem : Int) : Rz → Ins × Rz := fun r => j1 code mem (IntKind.u8.wrap (smallZ 11 r).1) (smallZ 11 r).2
def q0 (code mem : Nat) : PO Ins := bindO (smallO 11) fun K0 => q1 code mem (IntKind.u8.wrap (K0 : Int))
theorem lk_j0 (code mem : Nat) (hc : code < 9223372036854775808) (hm : mem < 9223372036854775808) : Lk (j0 ((code : Nat) : Int) ((mem : Nat) : Int)) (q0 code mem) id :=
  lk_bindO (s := smallZ 11) (q := smallO 11) (f := (fun n : Nat => (n : Int))) (s' := fun K0 => j1 ((code : Nat) : Int) ((mem : Nat) : Int) (IntKind.u8.wrap K0)) (q' := fun K0 : Nat => q1 code mem (IntKind.u8.wrap (K0 : Int))) (lk_small 11 (by decide)) (kp_small _) (fun K0 => lk_j1 code mem hc hm (IntKind.u8.wrap (K0 : Int))) (fun K0 => kp_j1 ((code : Nat) : Int) ((mem : Nat) : Int) (IntKind.u8.wrap K0))
theorem insZ_j (code mem : Int) : insZ code mem = j0 code mem := by funext r; rfl
theorem fO_none2 {L : Lim} {i : Ins} {l : List UInt8} (h : smallO L.reg l = none) : fieldO L i 2 l = none := by show (smallO L.reg l).map _ = none; rw [h]; rfl
theorem fO_some2 {L : Lim} {i : Ins} {l l' : List UInt8} {n : Nat} (h : smallO L.reg l = some (n, l')) : fieldO L i 2 l = some ({ i with d := n }, l') := by show (smallO L.reg l).map _ = _; rw [h]; rfl
theorem fO_none4 {L : Lim} {i : Ins} {l : List UInt8} (h : smallO L.reg l = none) : fieldO L i 4 l = none := by show (smallO L.reg l).map _ = none; rw [h]; rfl
theorem fO_some4 {L : Lim} {i : Ins} {l l' : List UInt8} {n : Nat} (h : smallO L.reg l = some (n, l')) : fieldO L i 4 l = some ({ i with a := n }, l') := by show (smallO L.reg l).map _ = _; rw [h]; rfl
theorem fO_none8 {L : Lim} {i : Ins} {l : List UInt8} (h : smallO L.reg l = none) : fieldO L i 8 l = none := by show (smallO L.reg l).map _ = none; rw [h]; rfl
theorem fO_some8 {L : Lim} {i : Ins} {l l' : List UInt8} {n : Nat} (h : smallO L.reg l = some (n, l')) : fieldO L i 8 l = some ({ i with b := n }, l') := by show (smallO L.reg l).map _ = _; rw [h]; rfl
theorem fO_none16 {L : Lim} {i : Ins} {l : List UInt8} (h : smallO L.addr l = none) : fieldO L i 16 l = none := by show (smallO L.addr l).map _ = none; rw [h]; rfl
theorem fO_some16 {L : Lim} {i : Ins} {l l' : List UInt8} {n : Nat} (h : smallO L.addr l = some (n, l')) : fieldO L i 16 l = some ({ i with addr := n }, l') := by show (smallO L.addr l).map _ = _; rw [h]; rfl
theorem fO_none32 {L : Lim} {i : Ins} {l : List UInt8} (h : smallO L.to_ l = none) : fieldO L i 32 l = none := by show (smallO L.to_ l).map _ = none; rw [h]; rfl
theorem fO_some32 {L : Lim} {i : Ins} {l l' : List UInt8} {n : Nat} (h : smallO L.to_ l = some (n, l')) : fieldO L i 32 l = some ({ i with to_ := n }, l') := by show (smallO L.to_ l).map _ = _; rw [h]; rfl
theorem fO_none64 {L : Lim} {i : Ins} {l : List UInt8} (h : wordO l = none) : fieldO L i 64 l = none := by show (wordO l).map _ = none; rw [h]; rfl
theorem fO_some64 {L : Lim} {i : Ins} {l l' : List UInt8} {n : Int} (h : wordO l = some (n, l')) : fieldO L i 64 l = some ({ i with word := n }, l') := by show (wordO l).map _ = _; rw [h]; rfl
theorem fO_none1 {L : Lim} {i : Ins} {l : List UInt8} (h : smallO L.op l = none) : fieldO L i 1 l = none := by show (smallO L.op l).map _ = none; rw [h]; rfl
theorem fO_some1 {L : Lim} {i : Ins} {l l' : List UInt8} {n : Nat} (h : smallO L.op l = some (n, l')) : fieldO L i 1 l = some ({ i with op := n }, l') := by show (smallO L.op l).map _ = _; rw [h]; rfl
theorem fs_none {L : Lim} {i : Ins} {u : Int} {us : List Int} {l : List UInt8} (h : fieldO L i u l = none) : fieldsO L (u :: us) i l = none := by
  show (match fieldO L i u l with | none => none | some (i', l') => fieldsO L us i' l') = none
  rw [h]
theorem fs_some {L : Lim} {i i' : Ins} {u : Int} {us : List Int} {l l' : List UInt8} (h : fieldO L i u l = some (i', l')) : fieldsO L (u :: us) i l = fieldsO L us i' l' := by
  show (match fieldO L i u l with | none => none | some (i', l') => fieldsO L us i' l') = _
  rw [h]
theorem ins_none {L : Lim} {k : Nat} {l l1 : List UInt8} (h : smallO 11 l = some (k, l1)) (hf : fieldsO L (kuse3 k) { zeroI with kind := k } l1 = none) : instrO L l = none := by
  unfold instrO; rw [h]; simp only; rw [hf]
theorem ins_none2 {L : Lim} {k : Nat} {l l1 l2 : List UInt8} {i : Ins} (h : smallO 11 l = some (k, l1)) (hf : fieldsO L (kuse3 k) { zeroI with kind := k } l1 = some (i, l2)) (hb : (if i.kind = 2 ∧ two i.op = true then fieldO L i 8 l2 else some (i, l2)) = none) : instrO L l = none := by
  unfold instrO; rw [h]; simp only; rw [hf]; simp only; rw [hb]
theorem ins_some {L : Lim} {k : Nat} {l l1 l2 l3 : List UInt8} {i i' : Ins} (h : smallO 11 l = some (k, l1)) (hf : fieldsO L (kuse3 k) { zeroI with kind := k } l1 = some (i, l2)) (hb : (if i.kind = 2 ∧ two i.op = true then fieldO L i 8 l2 else some (i, l2)) = some (i', l3)) : instrO L l = bindO (smallO 4096) (fun n l => some ({ i' with from_ := n }, l)) l3 := by
  unfold instrO bindO; rw [h]; simp only; rw [hf]; simp only; rw [hb]; simp only; cases smallO 4096 l3 <;> rfl
theorem q_kind0 {code mem : Nat} {l l1 : List UInt8} (h : smallO 11 l = some (0, l1)) : q1 code mem 0 l1 = instrO ⟨19, 16, mem, code⟩ l := by
  have ek : kuse3 ((0 : Nat) : Int) = [0, 0, 0, 0] := rfl
  have s1 : q1 code mem 0 l1 = q2 code mem 0 (IntKind.u8.wrap ((0 : Nat) : Int)) l1 := rfl
  rw [s1]
  have s2 : q2 code mem 0 (IntKind.u8.wrap ((0 : Nat) : Int)) l1 = q3 code mem 0 (IntKind.u8.wrap ((0 : Nat) : Int)) ((0 : Nat) : Int) l1 := rfl
  rw [s2]
  have s3 : q3 code mem 0 (IntKind.u8.wrap ((0 : Nat) : Int)) ((0 : Nat) : Int) l1 = q4 code mem 0 (IntKind.u8.wrap ((0 : Nat) : Int)) ((0 : Nat) : Int) ((0 : Nat) : Int) l1 := rfl
  rw [s3]
  have s4 : q4 code mem 0 (IntKind.u8.wrap ((0 : Nat) : Int)) ((0 : Nat) : Int) ((0 : Nat) : Int) l1 = q5 code mem 0 (IntKind.u8.wrap ((0 : Nat) : Int)) ((0 : Nat) : Int) ((0 : Nat) : Int) ((0 : Nat) : Int) l1 := rfl
  rw [s4]
  have s5 : q5 code mem 0 (IntKind.u8.wrap ((0 : Nat) : Int)) ((0 : Nat) : Int) ((0 : Nat) : Int) ((0 : Nat) : Int) l1 = q6 code mem 0 (IntKind.u8.wrap ((0 : Nat) : Int)) ((0 : Nat) : Int) ((0 : Nat) : Int) ((0 : Nat) : Int) 0 l1 := rfl
  rw [s5]
  have s6 : q6 code mem 0 (IntKind.u8.wrap ((0 : Nat) : Int)) ((0 : Nat) : Int) ((0 : Nat) : Int) ((0 : Nat) : Int) 0 l1 = q7 code mem 0 (IntKind.u8.wrap ((0 : Nat) : Int)) ((0 : Nat) : Int) ((0 : Nat) : Int) ((0 : Nat) : Int) 0 ((0 : Nat) : Int) l1 := rfl
  rw [s6]
  have s7 : q7 code mem 0 (IntKind.u8.wrap ((0 : Nat) : Int)) ((0 : Nat) : Int) ((0 : Nat) : Int) ((0 : Nat) : Int) 0 ((0 : Nat) : Int) l1 = q8 code mem 0 (IntKind.u8.wrap ((0 : Nat) : Int)) ((0 : Nat) : Int) ((0 : Nat) : Int) ((0 : Nat) : Int) 0 ((0 : Nat) : Int) ((0 : Nat) : Int) l1 := rfl
  rw [s7]
  have hf : fieldsO ⟨19, 16, mem, code⟩ [0, 0, 0, 0] ({ zeroI with kind := ((0 : Nat) : Int) } : Ins) l1 = some (⟨0, 0, 0, 0, 0, 0, 0, 0, 0⟩, l1) := rfl
  rw [ins_some h (by rw [ek]; exact hf) (if_neg (fun hh => absurd (show (0 : Int) = 2 from hh.1) (by decide)))]
  rfl
theorem q_kind1 {code mem : Nat} {l l1 : List UInt8} (h : smallO 11 l = some (1, l1)) : q1 code mem 1 l1 = instrO ⟨19, 16, mem, code⟩ l := by
  have ek : kuse3 ((1 : Nat) : Int) = [2, 64, 0, 0] := rfl
  have s1 : q1 code mem 1 l1 = q2 code mem 1 (IntKind.u8.wrap ((0 : Nat) : Int)) l1 := rfl
  rw [s1]
  rcases g1 : smallO 16 l1 with _ | ⟨x1, l2⟩
  · rw [show q2 code mem 1 (IntKind.u8.wrap ((0 : Nat) : Int)) l1 = none from bindO_none g1]
    exact (ins_none h (by rw [ek]; exact fs_none (fO_none2 g1))).symm
  rw [show q2 code mem 1 (IntKind.u8.wrap ((0 : Nat) : Int)) l1 = q3 code mem 1 (IntKind.u8.wrap ((0 : Nat) : Int)) ((x1 : Nat) : Int) l2 from bindO_some g1]
  have s3 : q3 code mem 1 (IntKind.u8.wrap ((0 : Nat) : Int)) ((x1 : Nat) : Int) l2 = q4 code mem 1 (IntKind.u8.wrap ((0 : Nat) : Int)) ((x1 : Nat) : Int) ((0 : Nat) : Int) l2 := rfl
  rw [s3]
  have s4 : q4 code mem 1 (IntKind.u8.wrap ((0 : Nat) : Int)) ((x1 : Nat) : Int) ((0 : Nat) : Int) l2 = q5 code mem 1 (IntKind.u8.wrap ((0 : Nat) : Int)) ((x1 : Nat) : Int) ((0 : Nat) : Int) ((0 : Nat) : Int) l2 := rfl
  rw [s4]
  rcases g2 : wordO l2 with _ | ⟨x2, l3⟩
  · rw [show q5 code mem 1 (IntKind.u8.wrap ((0 : Nat) : Int)) ((x1 : Nat) : Int) ((0 : Nat) : Int) ((0 : Nat) : Int) l2 = none from bindO_none g2]
    exact (ins_none h (by rw [ek]; exact (fs_some (fO_some2 g1)).trans (fs_none (fO_none64 g2)))).symm
  rw [show q5 code mem 1 (IntKind.u8.wrap ((0 : Nat) : Int)) ((x1 : Nat) : Int) ((0 : Nat) : Int) ((0 : Nat) : Int) l2 = q6 code mem 1 (IntKind.u8.wrap ((0 : Nat) : Int)) ((x1 : Nat) : Int) ((0 : Nat) : Int) ((0 : Nat) : Int) x2 l3 from bindO_some g2]
  have s6 : q6 code mem 1 (IntKind.u8.wrap ((0 : Nat) : Int)) ((x1 : Nat) : Int) ((0 : Nat) : Int) ((0 : Nat) : Int) x2 l3 = q7 code mem 1 (IntKind.u8.wrap ((0 : Nat) : Int)) ((x1 : Nat) : Int) ((0 : Nat) : Int) ((0 : Nat) : Int) x2 ((0 : Nat) : Int) l3 := rfl
  rw [s6]
  have s7 : q7 code mem 1 (IntKind.u8.wrap ((0 : Nat) : Int)) ((x1 : Nat) : Int) ((0 : Nat) : Int) ((0 : Nat) : Int) x2 ((0 : Nat) : Int) l3 = q8 code mem 1 (IntKind.u8.wrap ((0 : Nat) : Int)) ((x1 : Nat) : Int) ((0 : Nat) : Int) ((0 : Nat) : Int) x2 ((0 : Nat) : Int) ((0 : Nat) : Int) l3 := rfl
  rw [s7]
  have hf : fieldsO ⟨19, 16, mem, code⟩ [2, 64, 0, 0] ({ zeroI with kind := ((1 : Nat) : Int) } : Ins) l1 = some (⟨1, 0, ((x1 : Nat) : Int), 0, 0, 0, 0, x2, 0⟩, l3) := (fs_some (fO_some2 g1)).trans ((fs_some (fO_some64 g2)).trans (rfl))
  rw [ins_some h (by rw [ek]; exact hf) (if_neg (fun hh => absurd (show (1 : Int) = 2 from hh.1) (by decide)))]
  rfl
theorem q_kind3 {code mem : Nat} {l l1 : List UInt8} (h : smallO 11 l = some (3, l1)) : q1 code mem 3 l1 = instrO ⟨19, 16, mem, code⟩ l := by
  have ek : kuse3 ((3 : Nat) : Int) = [2, 16, 0, 0] := rfl
  have s1 : q1 code mem 3 l1 = q2 code mem 3 (IntKind.u8.wrap ((0 : Nat) : Int)) l1 := rfl
  rw [s1]
  rcases g1 : smallO 16 l1 with _ | ⟨x1, l2⟩
  · rw [show q2 code mem 3 (IntKind.u8.wrap ((0 : Nat) : Int)) l1 = none from bindO_none g1]
    exact (ins_none h (by rw [ek]; exact fs_none (fO_none2 g1))).symm
  rw [show q2 code mem 3 (IntKind.u8.wrap ((0 : Nat) : Int)) l1 = q3 code mem 3 (IntKind.u8.wrap ((0 : Nat) : Int)) ((x1 : Nat) : Int) l2 from bindO_some g1]
  have s3 : q3 code mem 3 (IntKind.u8.wrap ((0 : Nat) : Int)) ((x1 : Nat) : Int) l2 = q4 code mem 3 (IntKind.u8.wrap ((0 : Nat) : Int)) ((x1 : Nat) : Int) ((0 : Nat) : Int) l2 := rfl
  rw [s3]
  have s4 : q4 code mem 3 (IntKind.u8.wrap ((0 : Nat) : Int)) ((x1 : Nat) : Int) ((0 : Nat) : Int) l2 = q5 code mem 3 (IntKind.u8.wrap ((0 : Nat) : Int)) ((x1 : Nat) : Int) ((0 : Nat) : Int) ((0 : Nat) : Int) l2 := rfl
  rw [s4]
  have s5 : q5 code mem 3 (IntKind.u8.wrap ((0 : Nat) : Int)) ((x1 : Nat) : Int) ((0 : Nat) : Int) ((0 : Nat) : Int) l2 = q6 code mem 3 (IntKind.u8.wrap ((0 : Nat) : Int)) ((x1 : Nat) : Int) ((0 : Nat) : Int) ((0 : Nat) : Int) 0 l2 := rfl
  rw [s5]
  rcases g2 : smallO mem l2 with _ | ⟨x2, l3⟩
  · rw [show q6 code mem 3 (IntKind.u8.wrap ((0 : Nat) : Int)) ((x1 : Nat) : Int) ((0 : Nat) : Int) ((0 : Nat) : Int) 0 l2 = none from bindO_none g2]
    exact (ins_none h (by rw [ek]; exact (fs_some (fO_some2 g1)).trans (fs_none (fO_none16 g2)))).symm
  rw [show q6 code mem 3 (IntKind.u8.wrap ((0 : Nat) : Int)) ((x1 : Nat) : Int) ((0 : Nat) : Int) ((0 : Nat) : Int) 0 l2 = q7 code mem 3 (IntKind.u8.wrap ((0 : Nat) : Int)) ((x1 : Nat) : Int) ((0 : Nat) : Int) ((0 : Nat) : Int) 0 ((x2 : Nat) : Int) l3 from bindO_some g2]
  have s7 : q7 code mem 3 (IntKind.u8.wrap ((0 : Nat) : Int)) ((x1 : Nat) : Int) ((0 : Nat) : Int) ((0 : Nat) : Int) 0 ((x2 : Nat) : Int) l3 = q8 code mem 3 (IntKind.u8.wrap ((0 : Nat) : Int)) ((x1 : Nat) : Int) ((0 : Nat) : Int) ((0 : Nat) : Int) 0 ((x2 : Nat) : Int) ((0 : Nat) : Int) l3 := rfl
  rw [s7]
  have hf : fieldsO ⟨19, 16, mem, code⟩ [2, 16, 0, 0] ({ zeroI with kind := ((3 : Nat) : Int) } : Ins) l1 = some (⟨3, 0, ((x1 : Nat) : Int), 0, 0, ((x2 : Nat) : Int), 0, 0, 0⟩, l3) := (fs_some (fO_some2 g1)).trans ((fs_some (fO_some16 g2)).trans (rfl))
  rw [ins_some h (by rw [ek]; exact hf) (if_neg (fun hh => absurd (show (3 : Int) = 2 from hh.1) (by decide)))]
  rfl
theorem q_kind4 {code mem : Nat} {l l1 : List UInt8} (h : smallO 11 l = some (4, l1)) : q1 code mem 4 l1 = instrO ⟨19, 16, mem, code⟩ l := by
  have ek : kuse3 ((4 : Nat) : Int) = [4, 16, 0, 0] := rfl
  have s1 : q1 code mem 4 l1 = q2 code mem 4 (IntKind.u8.wrap ((0 : Nat) : Int)) l1 := rfl
  rw [s1]
  have s2 : q2 code mem 4 (IntKind.u8.wrap ((0 : Nat) : Int)) l1 = q3 code mem 4 (IntKind.u8.wrap ((0 : Nat) : Int)) ((0 : Nat) : Int) l1 := rfl
  rw [s2]
  rcases g1 : smallO 16 l1 with _ | ⟨x1, l2⟩
  · rw [show q3 code mem 4 (IntKind.u8.wrap ((0 : Nat) : Int)) ((0 : Nat) : Int) l1 = none from bindO_none g1]
    exact (ins_none h (by rw [ek]; exact fs_none (fO_none4 g1))).symm
  rw [show q3 code mem 4 (IntKind.u8.wrap ((0 : Nat) : Int)) ((0 : Nat) : Int) l1 = q4 code mem 4 (IntKind.u8.wrap ((0 : Nat) : Int)) ((0 : Nat) : Int) ((x1 : Nat) : Int) l2 from bindO_some g1]
  have s4 : q4 code mem 4 (IntKind.u8.wrap ((0 : Nat) : Int)) ((0 : Nat) : Int) ((x1 : Nat) : Int) l2 = q5 code mem 4 (IntKind.u8.wrap ((0 : Nat) : Int)) ((0 : Nat) : Int) ((x1 : Nat) : Int) ((0 : Nat) : Int) l2 := rfl
  rw [s4]
  have s5 : q5 code mem 4 (IntKind.u8.wrap ((0 : Nat) : Int)) ((0 : Nat) : Int) ((x1 : Nat) : Int) ((0 : Nat) : Int) l2 = q6 code mem 4 (IntKind.u8.wrap ((0 : Nat) : Int)) ((0 : Nat) : Int) ((x1 : Nat) : Int) ((0 : Nat) : Int) 0 l2 := rfl
  rw [s5]
  rcases g2 : smallO mem l2 with _ | ⟨x2, l3⟩
  · rw [show q6 code mem 4 (IntKind.u8.wrap ((0 : Nat) : Int)) ((0 : Nat) : Int) ((x1 : Nat) : Int) ((0 : Nat) : Int) 0 l2 = none from bindO_none g2]
    exact (ins_none h (by rw [ek]; exact (fs_some (fO_some4 g1)).trans (fs_none (fO_none16 g2)))).symm
  rw [show q6 code mem 4 (IntKind.u8.wrap ((0 : Nat) : Int)) ((0 : Nat) : Int) ((x1 : Nat) : Int) ((0 : Nat) : Int) 0 l2 = q7 code mem 4 (IntKind.u8.wrap ((0 : Nat) : Int)) ((0 : Nat) : Int) ((x1 : Nat) : Int) ((0 : Nat) : Int) 0 ((x2 : Nat) : Int) l3 from bindO_some g2]
  have s7 : q7 code mem 4 (IntKind.u8.wrap ((0 : Nat) : Int)) ((0 : Nat) : Int) ((x1 : Nat) : Int) ((0 : Nat) : Int) 0 ((x2 : Nat) : Int) l3 = q8 code mem 4 (IntKind.u8.wrap ((0 : Nat) : Int)) ((0 : Nat) : Int) ((x1 : Nat) : Int) ((0 : Nat) : Int) 0 ((x2 : Nat) : Int) ((0 : Nat) : Int) l3 := rfl
  rw [s7]
  have hf : fieldsO ⟨19, 16, mem, code⟩ [4, 16, 0, 0] ({ zeroI with kind := ((4 : Nat) : Int) } : Ins) l1 = some (⟨4, 0, 0, ((x1 : Nat) : Int), 0, ((x2 : Nat) : Int), 0, 0, 0⟩, l3) := (fs_some (fO_some4 g1)).trans ((fs_some (fO_some16 g2)).trans (rfl))
  rw [ins_some h (by rw [ek]; exact hf) (if_neg (fun hh => absurd (show (4 : Int) = 2 from hh.1) (by decide)))]
  rfl
theorem q_kind5 {code mem : Nat} {l l1 : List UInt8} (h : smallO 11 l = some (5, l1)) : q1 code mem 5 l1 = instrO ⟨19, 16, mem, code⟩ l := by
  have ek : kuse3 ((5 : Nat) : Int) = [2, 16, 0, 0] := rfl
  have s1 : q1 code mem 5 l1 = q2 code mem 5 (IntKind.u8.wrap ((0 : Nat) : Int)) l1 := rfl
  rw [s1]
  rcases g1 : smallO 16 l1 with _ | ⟨x1, l2⟩
  · rw [show q2 code mem 5 (IntKind.u8.wrap ((0 : Nat) : Int)) l1 = none from bindO_none g1]
    exact (ins_none h (by rw [ek]; exact fs_none (fO_none2 g1))).symm
  rw [show q2 code mem 5 (IntKind.u8.wrap ((0 : Nat) : Int)) l1 = q3 code mem 5 (IntKind.u8.wrap ((0 : Nat) : Int)) ((x1 : Nat) : Int) l2 from bindO_some g1]
  have s3 : q3 code mem 5 (IntKind.u8.wrap ((0 : Nat) : Int)) ((x1 : Nat) : Int) l2 = q4 code mem 5 (IntKind.u8.wrap ((0 : Nat) : Int)) ((x1 : Nat) : Int) ((0 : Nat) : Int) l2 := rfl
  rw [s3]
  have s4 : q4 code mem 5 (IntKind.u8.wrap ((0 : Nat) : Int)) ((x1 : Nat) : Int) ((0 : Nat) : Int) l2 = q5 code mem 5 (IntKind.u8.wrap ((0 : Nat) : Int)) ((x1 : Nat) : Int) ((0 : Nat) : Int) ((0 : Nat) : Int) l2 := rfl
  rw [s4]
  have s5 : q5 code mem 5 (IntKind.u8.wrap ((0 : Nat) : Int)) ((x1 : Nat) : Int) ((0 : Nat) : Int) ((0 : Nat) : Int) l2 = q6 code mem 5 (IntKind.u8.wrap ((0 : Nat) : Int)) ((x1 : Nat) : Int) ((0 : Nat) : Int) ((0 : Nat) : Int) 0 l2 := rfl
  rw [s5]
  rcases g2 : smallO mem l2 with _ | ⟨x2, l3⟩
  · rw [show q6 code mem 5 (IntKind.u8.wrap ((0 : Nat) : Int)) ((x1 : Nat) : Int) ((0 : Nat) : Int) ((0 : Nat) : Int) 0 l2 = none from bindO_none g2]
    exact (ins_none h (by rw [ek]; exact (fs_some (fO_some2 g1)).trans (fs_none (fO_none16 g2)))).symm
  rw [show q6 code mem 5 (IntKind.u8.wrap ((0 : Nat) : Int)) ((x1 : Nat) : Int) ((0 : Nat) : Int) ((0 : Nat) : Int) 0 l2 = q7 code mem 5 (IntKind.u8.wrap ((0 : Nat) : Int)) ((x1 : Nat) : Int) ((0 : Nat) : Int) ((0 : Nat) : Int) 0 ((x2 : Nat) : Int) l3 from bindO_some g2]
  have s7 : q7 code mem 5 (IntKind.u8.wrap ((0 : Nat) : Int)) ((x1 : Nat) : Int) ((0 : Nat) : Int) ((0 : Nat) : Int) 0 ((x2 : Nat) : Int) l3 = q8 code mem 5 (IntKind.u8.wrap ((0 : Nat) : Int)) ((x1 : Nat) : Int) ((0 : Nat) : Int) ((0 : Nat) : Int) 0 ((x2 : Nat) : Int) ((0 : Nat) : Int) l3 := rfl
  rw [s7]
  have hf : fieldsO ⟨19, 16, mem, code⟩ [2, 16, 0, 0] ({ zeroI with kind := ((5 : Nat) : Int) } : Ins) l1 = some (⟨5, 0, ((x1 : Nat) : Int), 0, 0, ((x2 : Nat) : Int), 0, 0, 0⟩, l3) := (fs_some (fO_some2 g1)).trans ((fs_some (fO_some16 g2)).trans (rfl))
  rw [ins_some h (by rw [ek]; exact hf) (if_neg (fun hh => absurd (show (5 : Int) = 2 from hh.1) (by decide)))]
  rfl
theorem q_kind6 {code mem : Nat} {l l1 : List UInt8} (h : smallO 11 l = some (6, l1)) : q1 code mem 6 l1 = instrO ⟨19, 16, mem, code⟩ l := by
  have ek : kuse3 ((6 : Nat) : Int) = [0, 0, 0, 0] := rfl
  have s1 : q1 code mem 6 l1 = q2 code mem 6 (IntKind.u8.wrap ((0 : Nat) : Int)) l1 := rfl
  rw [s1]
  have s2 : q2 code mem 6 (IntKind.u8.wrap ((0 : Nat) : Int)) l1 = q3 code mem 6 (IntKind.u8.wrap ((0 : Nat) : Int)) ((0 : Nat) : Int) l1 := rfl
  rw [s2]
  have s3 : q3 code mem 6 (IntKind.u8.wrap ((0 : Nat) : Int)) ((0 : Nat) : Int) l1 = q4 code mem 6 (IntKind.u8.wrap ((0 : Nat) : Int)) ((0 : Nat) : Int) ((0 : Nat) : Int) l1 := rfl
  rw [s3]
  have s4 : q4 code mem 6 (IntKind.u8.wrap ((0 : Nat) : Int)) ((0 : Nat) : Int) ((0 : Nat) : Int) l1 = q5 code mem 6 (IntKind.u8.wrap ((0 : Nat) : Int)) ((0 : Nat) : Int) ((0 : Nat) : Int) ((0 : Nat) : Int) l1 := rfl
  rw [s4]
  have s5 : q5 code mem 6 (IntKind.u8.wrap ((0 : Nat) : Int)) ((0 : Nat) : Int) ((0 : Nat) : Int) ((0 : Nat) : Int) l1 = q6 code mem 6 (IntKind.u8.wrap ((0 : Nat) : Int)) ((0 : Nat) : Int) ((0 : Nat) : Int) ((0 : Nat) : Int) 0 l1 := rfl
  rw [s5]
  have s6 : q6 code mem 6 (IntKind.u8.wrap ((0 : Nat) : Int)) ((0 : Nat) : Int) ((0 : Nat) : Int) ((0 : Nat) : Int) 0 l1 = q7 code mem 6 (IntKind.u8.wrap ((0 : Nat) : Int)) ((0 : Nat) : Int) ((0 : Nat) : Int) ((0 : Nat) : Int) 0 ((0 : Nat) : Int) l1 := rfl
  rw [s6]
  have s7 : q7 code mem 6 (IntKind.u8.wrap ((0 : Nat) : Int)) ((0 : Nat) : Int) ((0 : Nat) : Int) ((0 : Nat) : Int) 0 ((0 : Nat) : Int) l1 = q8 code mem 6 (IntKind.u8.wrap ((0 : Nat) : Int)) ((0 : Nat) : Int) ((0 : Nat) : Int) ((0 : Nat) : Int) 0 ((0 : Nat) : Int) ((0 : Nat) : Int) l1 := rfl
  rw [s7]
  have hf : fieldsO ⟨19, 16, mem, code⟩ [0, 0, 0, 0] ({ zeroI with kind := ((6 : Nat) : Int) } : Ins) l1 = some (⟨6, 0, 0, 0, 0, 0, 0, 0, 0⟩, l1) := rfl
  rw [ins_some h (by rw [ek]; exact hf) (if_neg (fun hh => absurd (show (6 : Int) = 2 from hh.1) (by decide)))]
  rfl
theorem q_kind7 {code mem : Nat} {l l1 : List UInt8} (h : smallO 11 l = some (7, l1)) : q1 code mem 7 l1 = instrO ⟨19, 16, mem, code⟩ l := by
  have ek : kuse3 ((7 : Nat) : Int) = [4, 0, 0, 0] := rfl
  have s1 : q1 code mem 7 l1 = q2 code mem 7 (IntKind.u8.wrap ((0 : Nat) : Int)) l1 := rfl
  rw [s1]
  have s2 : q2 code mem 7 (IntKind.u8.wrap ((0 : Nat) : Int)) l1 = q3 code mem 7 (IntKind.u8.wrap ((0 : Nat) : Int)) ((0 : Nat) : Int) l1 := rfl
  rw [s2]
  rcases g1 : smallO 16 l1 with _ | ⟨x1, l2⟩
  · rw [show q3 code mem 7 (IntKind.u8.wrap ((0 : Nat) : Int)) ((0 : Nat) : Int) l1 = none from bindO_none g1]
    exact (ins_none h (by rw [ek]; exact fs_none (fO_none4 g1))).symm
  rw [show q3 code mem 7 (IntKind.u8.wrap ((0 : Nat) : Int)) ((0 : Nat) : Int) l1 = q4 code mem 7 (IntKind.u8.wrap ((0 : Nat) : Int)) ((0 : Nat) : Int) ((x1 : Nat) : Int) l2 from bindO_some g1]
  have s4 : q4 code mem 7 (IntKind.u8.wrap ((0 : Nat) : Int)) ((0 : Nat) : Int) ((x1 : Nat) : Int) l2 = q5 code mem 7 (IntKind.u8.wrap ((0 : Nat) : Int)) ((0 : Nat) : Int) ((x1 : Nat) : Int) ((0 : Nat) : Int) l2 := rfl
  rw [s4]
  have s5 : q5 code mem 7 (IntKind.u8.wrap ((0 : Nat) : Int)) ((0 : Nat) : Int) ((x1 : Nat) : Int) ((0 : Nat) : Int) l2 = q6 code mem 7 (IntKind.u8.wrap ((0 : Nat) : Int)) ((0 : Nat) : Int) ((x1 : Nat) : Int) ((0 : Nat) : Int) 0 l2 := rfl
  rw [s5]
  have s6 : q6 code mem 7 (IntKind.u8.wrap ((0 : Nat) : Int)) ((0 : Nat) : Int) ((x1 : Nat) : Int) ((0 : Nat) : Int) 0 l2 = q7 code mem 7 (IntKind.u8.wrap ((0 : Nat) : Int)) ((0 : Nat) : Int) ((x1 : Nat) : Int) ((0 : Nat) : Int) 0 ((0 : Nat) : Int) l2 := rfl
  rw [s6]
  have s7 : q7 code mem 7 (IntKind.u8.wrap ((0 : Nat) : Int)) ((0 : Nat) : Int) ((x1 : Nat) : Int) ((0 : Nat) : Int) 0 ((0 : Nat) : Int) l2 = q8 code mem 7 (IntKind.u8.wrap ((0 : Nat) : Int)) ((0 : Nat) : Int) ((x1 : Nat) : Int) ((0 : Nat) : Int) 0 ((0 : Nat) : Int) ((0 : Nat) : Int) l2 := rfl
  rw [s7]
  have hf : fieldsO ⟨19, 16, mem, code⟩ [4, 0, 0, 0] ({ zeroI with kind := ((7 : Nat) : Int) } : Ins) l1 = some (⟨7, 0, 0, ((x1 : Nat) : Int), 0, 0, 0, 0, 0⟩, l2) := (fs_some (fO_some4 g1)).trans (rfl)
  rw [ins_some h (by rw [ek]; exact hf) (if_neg (fun hh => absurd (show (7 : Int) = 2 from hh.1) (by decide)))]
  rfl
theorem q_kind8 {code mem : Nat} {l l1 : List UInt8} (h : smallO 11 l = some (8, l1)) : q1 code mem 8 l1 = instrO ⟨19, 16, mem, code⟩ l := by
  have ek : kuse3 ((8 : Nat) : Int) = [32, 0, 0, 0] := rfl
  have s1 : q1 code mem 8 l1 = q2 code mem 8 (IntKind.u8.wrap ((0 : Nat) : Int)) l1 := rfl
  rw [s1]
  have s2 : q2 code mem 8 (IntKind.u8.wrap ((0 : Nat) : Int)) l1 = q3 code mem 8 (IntKind.u8.wrap ((0 : Nat) : Int)) ((0 : Nat) : Int) l1 := rfl
  rw [s2]
  have s3 : q3 code mem 8 (IntKind.u8.wrap ((0 : Nat) : Int)) ((0 : Nat) : Int) l1 = q4 code mem 8 (IntKind.u8.wrap ((0 : Nat) : Int)) ((0 : Nat) : Int) ((0 : Nat) : Int) l1 := rfl
  rw [s3]
  have s4 : q4 code mem 8 (IntKind.u8.wrap ((0 : Nat) : Int)) ((0 : Nat) : Int) ((0 : Nat) : Int) l1 = q5 code mem 8 (IntKind.u8.wrap ((0 : Nat) : Int)) ((0 : Nat) : Int) ((0 : Nat) : Int) ((0 : Nat) : Int) l1 := rfl
  rw [s4]
  have s5 : q5 code mem 8 (IntKind.u8.wrap ((0 : Nat) : Int)) ((0 : Nat) : Int) ((0 : Nat) : Int) ((0 : Nat) : Int) l1 = q6 code mem 8 (IntKind.u8.wrap ((0 : Nat) : Int)) ((0 : Nat) : Int) ((0 : Nat) : Int) ((0 : Nat) : Int) 0 l1 := rfl
  rw [s5]
  have s6 : q6 code mem 8 (IntKind.u8.wrap ((0 : Nat) : Int)) ((0 : Nat) : Int) ((0 : Nat) : Int) ((0 : Nat) : Int) 0 l1 = q7 code mem 8 (IntKind.u8.wrap ((0 : Nat) : Int)) ((0 : Nat) : Int) ((0 : Nat) : Int) ((0 : Nat) : Int) 0 ((0 : Nat) : Int) l1 := rfl
  rw [s6]
  rcases g1 : smallO code l1 with _ | ⟨x1, l2⟩
  · rw [show q7 code mem 8 (IntKind.u8.wrap ((0 : Nat) : Int)) ((0 : Nat) : Int) ((0 : Nat) : Int) ((0 : Nat) : Int) 0 ((0 : Nat) : Int) l1 = none from bindO_none g1]
    exact (ins_none h (by rw [ek]; exact fs_none (fO_none32 g1))).symm
  rw [show q7 code mem 8 (IntKind.u8.wrap ((0 : Nat) : Int)) ((0 : Nat) : Int) ((0 : Nat) : Int) ((0 : Nat) : Int) 0 ((0 : Nat) : Int) l1 = q8 code mem 8 (IntKind.u8.wrap ((0 : Nat) : Int)) ((0 : Nat) : Int) ((0 : Nat) : Int) ((0 : Nat) : Int) 0 ((0 : Nat) : Int) ((x1 : Nat) : Int) l2 from bindO_some g1]
  have hf : fieldsO ⟨19, 16, mem, code⟩ [32, 0, 0, 0] ({ zeroI with kind := ((8 : Nat) : Int) } : Ins) l1 = some (⟨8, 0, 0, 0, 0, 0, ((x1 : Nat) : Int), 0, 0⟩, l2) := (fs_some (fO_some32 g1)).trans (rfl)
  rw [ins_some h (by rw [ek]; exact hf) (if_neg (fun hh => absurd (show (8 : Int) = 2 from hh.1) (by decide)))]
  rfl
theorem q_kind9 {code mem : Nat} {l l1 : List UInt8} (h : smallO 11 l = some (9, l1)) : q1 code mem 9 l1 = instrO ⟨19, 16, mem, code⟩ l := by
  have ek : kuse3 ((9 : Nat) : Int) = [4, 32, 0, 0] := rfl
  have s1 : q1 code mem 9 l1 = q2 code mem 9 (IntKind.u8.wrap ((0 : Nat) : Int)) l1 := rfl
  rw [s1]
  have s2 : q2 code mem 9 (IntKind.u8.wrap ((0 : Nat) : Int)) l1 = q3 code mem 9 (IntKind.u8.wrap ((0 : Nat) : Int)) ((0 : Nat) : Int) l1 := rfl
  rw [s2]
  rcases g1 : smallO 16 l1 with _ | ⟨x1, l2⟩
  · rw [show q3 code mem 9 (IntKind.u8.wrap ((0 : Nat) : Int)) ((0 : Nat) : Int) l1 = none from bindO_none g1]
    exact (ins_none h (by rw [ek]; exact fs_none (fO_none4 g1))).symm
  rw [show q3 code mem 9 (IntKind.u8.wrap ((0 : Nat) : Int)) ((0 : Nat) : Int) l1 = q4 code mem 9 (IntKind.u8.wrap ((0 : Nat) : Int)) ((0 : Nat) : Int) ((x1 : Nat) : Int) l2 from bindO_some g1]
  have s4 : q4 code mem 9 (IntKind.u8.wrap ((0 : Nat) : Int)) ((0 : Nat) : Int) ((x1 : Nat) : Int) l2 = q5 code mem 9 (IntKind.u8.wrap ((0 : Nat) : Int)) ((0 : Nat) : Int) ((x1 : Nat) : Int) ((0 : Nat) : Int) l2 := rfl
  rw [s4]
  have s5 : q5 code mem 9 (IntKind.u8.wrap ((0 : Nat) : Int)) ((0 : Nat) : Int) ((x1 : Nat) : Int) ((0 : Nat) : Int) l2 = q6 code mem 9 (IntKind.u8.wrap ((0 : Nat) : Int)) ((0 : Nat) : Int) ((x1 : Nat) : Int) ((0 : Nat) : Int) 0 l2 := rfl
  rw [s5]
  have s6 : q6 code mem 9 (IntKind.u8.wrap ((0 : Nat) : Int)) ((0 : Nat) : Int) ((x1 : Nat) : Int) ((0 : Nat) : Int) 0 l2 = q7 code mem 9 (IntKind.u8.wrap ((0 : Nat) : Int)) ((0 : Nat) : Int) ((x1 : Nat) : Int) ((0 : Nat) : Int) 0 ((0 : Nat) : Int) l2 := rfl
  rw [s6]
  rcases g2 : smallO code l2 with _ | ⟨x2, l3⟩
  · rw [show q7 code mem 9 (IntKind.u8.wrap ((0 : Nat) : Int)) ((0 : Nat) : Int) ((x1 : Nat) : Int) ((0 : Nat) : Int) 0 ((0 : Nat) : Int) l2 = none from bindO_none g2]
    exact (ins_none h (by rw [ek]; exact (fs_some (fO_some4 g1)).trans (fs_none (fO_none32 g2)))).symm
  rw [show q7 code mem 9 (IntKind.u8.wrap ((0 : Nat) : Int)) ((0 : Nat) : Int) ((x1 : Nat) : Int) ((0 : Nat) : Int) 0 ((0 : Nat) : Int) l2 = q8 code mem 9 (IntKind.u8.wrap ((0 : Nat) : Int)) ((0 : Nat) : Int) ((x1 : Nat) : Int) ((0 : Nat) : Int) 0 ((0 : Nat) : Int) ((x2 : Nat) : Int) l3 from bindO_some g2]
  have hf : fieldsO ⟨19, 16, mem, code⟩ [4, 32, 0, 0] ({ zeroI with kind := ((9 : Nat) : Int) } : Ins) l1 = some (⟨9, 0, 0, ((x1 : Nat) : Int), 0, 0, ((x2 : Nat) : Int), 0, 0⟩, l3) := (fs_some (fO_some4 g1)).trans ((fs_some (fO_some32 g2)).trans (rfl))
  rw [ins_some h (by rw [ek]; exact hf) (if_neg (fun hh => absurd (show (9 : Int) = 2 from hh.1) (by decide)))]
  rfl
theorem q_kind10 {code mem : Nat} {l l1 : List UInt8} (h : smallO 11 l = some (10, l1)) : q1 code mem 10 l1 = instrO ⟨19, 16, mem, code⟩ l := by
  have ek : kuse3 ((10 : Nat) : Int) = [0, 0, 0, 0] := rfl
  have s1 : q1 code mem 10 l1 = q2 code mem 10 (IntKind.u8.wrap ((0 : Nat) : Int)) l1 := rfl
  rw [s1]
  have s2 : q2 code mem 10 (IntKind.u8.wrap ((0 : Nat) : Int)) l1 = q3 code mem 10 (IntKind.u8.wrap ((0 : Nat) : Int)) ((0 : Nat) : Int) l1 := rfl
  rw [s2]
  have s3 : q3 code mem 10 (IntKind.u8.wrap ((0 : Nat) : Int)) ((0 : Nat) : Int) l1 = q4 code mem 10 (IntKind.u8.wrap ((0 : Nat) : Int)) ((0 : Nat) : Int) ((0 : Nat) : Int) l1 := rfl
  rw [s3]
  have s4 : q4 code mem 10 (IntKind.u8.wrap ((0 : Nat) : Int)) ((0 : Nat) : Int) ((0 : Nat) : Int) l1 = q5 code mem 10 (IntKind.u8.wrap ((0 : Nat) : Int)) ((0 : Nat) : Int) ((0 : Nat) : Int) ((0 : Nat) : Int) l1 := rfl
  rw [s4]
  have s5 : q5 code mem 10 (IntKind.u8.wrap ((0 : Nat) : Int)) ((0 : Nat) : Int) ((0 : Nat) : Int) ((0 : Nat) : Int) l1 = q6 code mem 10 (IntKind.u8.wrap ((0 : Nat) : Int)) ((0 : Nat) : Int) ((0 : Nat) : Int) ((0 : Nat) : Int) 0 l1 := rfl
  rw [s5]
  have s6 : q6 code mem 10 (IntKind.u8.wrap ((0 : Nat) : Int)) ((0 : Nat) : Int) ((0 : Nat) : Int) ((0 : Nat) : Int) 0 l1 = q7 code mem 10 (IntKind.u8.wrap ((0 : Nat) : Int)) ((0 : Nat) : Int) ((0 : Nat) : Int) ((0 : Nat) : Int) 0 ((0 : Nat) : Int) l1 := rfl
  rw [s6]
  have s7 : q7 code mem 10 (IntKind.u8.wrap ((0 : Nat) : Int)) ((0 : Nat) : Int) ((0 : Nat) : Int) ((0 : Nat) : Int) 0 ((0 : Nat) : Int) l1 = q8 code mem 10 (IntKind.u8.wrap ((0 : Nat) : Int)) ((0 : Nat) : Int) ((0 : Nat) : Int) ((0 : Nat) : Int) 0 ((0 : Nat) : Int) ((0 : Nat) : Int) l1 := rfl
  rw [s7]
  have hf : fieldsO ⟨19, 16, mem, code⟩ [0, 0, 0, 0] ({ zeroI with kind := ((10 : Nat) : Int) } : Ins) l1 = some (⟨10, 0, 0, 0, 0, 0, 0, 0, 0⟩, l1) := rfl
  rw [ins_some h (by rw [ek]; exact hf) (if_neg (fun hh => absurd (show (10 : Int) = 2 from hh.1) (by decide)))]
  rfl
theorem q_kind11 {code mem : Nat} {l l1 : List UInt8} (h : smallO 11 l = some (11, l1)) : q1 code mem 11 l1 = instrO ⟨19, 16, mem, code⟩ l := by
  have ek : kuse3 ((11 : Nat) : Int) = [0, 0, 0, 0] := rfl
  have s1 : q1 code mem 11 l1 = q2 code mem 11 (IntKind.u8.wrap ((0 : Nat) : Int)) l1 := rfl
  rw [s1]
  have s2 : q2 code mem 11 (IntKind.u8.wrap ((0 : Nat) : Int)) l1 = q3 code mem 11 (IntKind.u8.wrap ((0 : Nat) : Int)) ((0 : Nat) : Int) l1 := rfl
  rw [s2]
  have s3 : q3 code mem 11 (IntKind.u8.wrap ((0 : Nat) : Int)) ((0 : Nat) : Int) l1 = q4 code mem 11 (IntKind.u8.wrap ((0 : Nat) : Int)) ((0 : Nat) : Int) ((0 : Nat) : Int) l1 := rfl
  rw [s3]
  have s4 : q4 code mem 11 (IntKind.u8.wrap ((0 : Nat) : Int)) ((0 : Nat) : Int) ((0 : Nat) : Int) l1 = q5 code mem 11 (IntKind.u8.wrap ((0 : Nat) : Int)) ((0 : Nat) : Int) ((0 : Nat) : Int) ((0 : Nat) : Int) l1 := rfl
  rw [s4]
  have s5 : q5 code mem 11 (IntKind.u8.wrap ((0 : Nat) : Int)) ((0 : Nat) : Int) ((0 : Nat) : Int) ((0 : Nat) : Int) l1 = q6 code mem 11 (IntKind.u8.wrap ((0 : Nat) : Int)) ((0 : Nat) : Int) ((0 : Nat) : Int) ((0 : Nat) : Int) 0 l1 := rfl
  rw [s5]
  have s6 : q6 code mem 11 (IntKind.u8.wrap ((0 : Nat) : Int)) ((0 : Nat) : Int) ((0 : Nat) : Int) ((0 : Nat) : Int) 0 l1 = q7 code mem 11 (IntKind.u8.wrap ((0 : Nat) : Int)) ((0 : Nat) : Int) ((0 : Nat) : Int) ((0 : Nat) : Int) 0 ((0 : Nat) : Int) l1 := rfl
  rw [s6]
  have s7 : q7 code mem 11 (IntKind.u8.wrap ((0 : Nat) : Int)) ((0 : Nat) : Int) ((0 : Nat) : Int) ((0 : Nat) : Int) 0 ((0 : Nat) : Int) l1 = q8 code mem 11 (IntKind.u8.wrap ((0 : Nat) : Int)) ((0 : Nat) : Int) ((0 : Nat) : Int) ((0 : Nat) : Int) 0 ((0 : Nat) : Int) ((0 : Nat) : Int) l1 := rfl
  rw [s7]
  have hf : fieldsO ⟨19, 16, mem, code⟩ [0, 0, 0, 0] ({ zeroI with kind := ((11 : Nat) : Int) } : Ins) l1 = some (⟨11, 0, 0, 0, 0, 0, 0, 0, 0⟩, l1) := rfl
  rw [ins_some h (by rw [ek]; exact hf) (if_neg (fun hh => absurd (show (11 : Int) = 2 from hh.1) (by decide)))]
  rfl
theorem q_kind2 {code mem : Nat} {l l1 : List UInt8} (h : smallO 11 l = some (2, l1)) : q1 code mem 2 l1 = instrO ⟨19, 16, mem, code⟩ l := by
  have ek : kuse3 ((2 : Nat) : Int) = [1, 2, 4] := rfl
  rcases g1 : smallO 19 l1 with _ | ⟨x1, l2⟩
  · rw [show q1 code mem 2 l1 = none from bindO_none g1]
    exact (ins_none h (by rw [ek]; exact fs_none (fO_none1 g1))).symm
  rw [show q1 code mem 2 l1 = q2 code mem 2 (IntKind.u8.wrap ((x1 : Nat) : Int)) l2 from bindO_some g1]
  rw [show IntKind.u8.wrap ((x1 : Nat) : Int) = (x1 : Int) by rw [wu8n]; have := (smallO_inv g1).1; omega]
  rcases g2 : smallO 16 l2 with _ | ⟨x2, l3⟩
  · rw [show q2 code mem 2 x1 l2 = none from bindO_none g2]
    exact (ins_none h (by rw [ek]; exact (fs_some (fO_some1 g1)).trans (fs_none (fO_none2 g2)))).symm
  rw [show q2 code mem 2 x1 l2 = q3 code mem 2 x1 x2 l3 from bindO_some g2]
  rcases g3 : smallO 16 l3 with _ | ⟨x3, l4⟩
  · rw [show q3 code mem 2 x1 x2 l3 = none from bindO_none g3]
    exact (ins_none h (by rw [ek]; exact (fs_some (fO_some1 g1)).trans ((fs_some (fO_some2 g2)).trans (fs_none (fO_none4 g3))))).symm
  rw [show q3 code mem 2 x1 x2 l3 = q4 code mem 2 x1 x2 x3 l4 from bindO_some g3]
  have hf : fieldsO ⟨19, 16, mem, code⟩ [1, 2, 4] ({ zeroI with kind := ((2 : Nat) : Int) } : Ins) l1 = some (⟨2, x1, x2, x3, 0, 0, 0, 0, 0⟩, l4) := (fs_some (fO_some1 g1)).trans ((fs_some (fO_some2 g2)).trans ((fs_some (fO_some4 g3)).trans rfl))
  cases ht : two ((x1 : Nat) : Int)
  · rw [show q4 code mem 2 x1 x2 x3 l4 = q5 code mem 2 x1 x2 x3 0 l4 by unfold q4; rw [ht]; rfl]
    rw [ins_some h (by rw [ek]; exact hf) (if_neg (by rintro ⟨_, h⟩; rw [ht] at h; cases h))]
    rfl
  · rcases g4 : smallO 16 l4 with _ | ⟨x4, l5⟩
    · rw [show q4 code mem 2 x1 x2 x3 l4 = none by unfold q4; rw [ht]; exact bindO_none g4]
      exact (ins_none2 h (by rw [ek]; exact hf) ((if_pos ⟨rfl, ht⟩).trans (fO_none8 g4))).symm
    · rw [show q4 code mem 2 x1 x2 x3 l4 = q5 code mem 2 x1 x2 x3 x4 l5 by unfold q4; rw [ht]; exact bindO_some g4]
      rw [ins_some h (by rw [ek]; exact hf) ((if_pos ⟨rfl, ht⟩).trans (fO_some8 g4))]
      rfl
theorem q0_eq (code mem : Nat) (l : List UInt8) : instrO ⟨19, 16, mem, code⟩ l = q0 code mem l := by
  rcases h : smallO 11 l with _ | ⟨k, l1⟩
  · rw [show q0 code mem l = none from bindO_none h]
    unfold instrO; rw [h]
  · have hk := (smallO_inv h).1
    rw [show q0 code mem l = q1 code mem (IntKind.u8.wrap ((k : Nat) : Int)) l1 from bindO_some h]
    rw [show IntKind.u8.wrap ((k : Nat) : Int) = (k : Int) by rw [wu8n]; omega]
    rcases kuse3_cases hk with rfl | rfl | rfl | rfl | rfl | rfl | rfl | rfl | rfl | rfl | rfl | rfl
    · exact (q_kind0 h).symm
    · exact (q_kind1 h).symm
    · exact (q_kind2 h).symm
    · exact (q_kind3 h).symm
    · exact (q_kind4 h).symm
    · exact (q_kind5 h).symm
    · exact (q_kind6 h).symm
    · exact (q_kind7 h).symm
    · exact (q_kind8 h).symm
    · exact (q_kind9 h).symm
    · exact (q_kind10 h).symm
    · exact (q_kind11 h).symm
theorem lk_ins {code mem : Nat} (hc : code < 9223372036854775808) (hm : mem < 9223372036854775808) : Lk (insZ (code : Nat) (mem : Nat)) (instrO ⟨19, 16, mem, code⟩) id :=
  lk_congr (lk_j0 code mem hc hm) (fun r => by rw [insZ_j]) (fun l => q0_eq code mem l) fun _ => rfl

end Go.Proofs.YtffhoknkfohfgaaGreatDoor.am

namespace Go.Proofs.YtffhoknkfohfgaaGreatDoor.am
open Go Go.Proofs
def loopZ {α : Type} (s : Rz → α × Rz) : Nat → Rz → List α → List α × Rz
  | 0, r, acc => (acc, r)
  | n + 1, r, acc => bif r.bad then (acc, r) else loopZ s n (s r).2 (acc ++ [(s r).1])
theorem loopZ_bad {α : Type} (s : Rz → α × Rz) (n : Nat) (b : List UInt8) (a : Nat) (acc : List α) : loopZ s n ⟨b, a, true⟩ acc = (acc, ⟨b, a, true⟩) := by cases n <;> rfl
theorem kp_loop {α : Type} {s : Rz → α × Rz} (h : Kp s) : ∀ (n : Nat) (acc : List α), Kp (fun r => loopZ s n r acc)
  | 0, _ => kp_ret _
  | n + 1, acc => by
    have ih := fun acc => kp_loop h n acc
    refine ⟨fun r hr => ?_, fun r hr hb => ?_⟩
    · show (bif r.bad then (acc, r) else loopZ s n (s r).2 (acc ++ [(s r).1])).2.ok ∧ (bif r.bad then (acc, r) else loopZ s n (s r).2 (acc ++ [(s r).1])).2.b = r.b
      have h1 := h.ok r hr
      have h2 := (ih (acc ++ [(s r).1])).ok _ h1.1
      cases r.bad
      · exact ⟨h2.1, h2.2.trans h1.2⟩
      · exact ⟨hr, rfl⟩
    · show (bif r.bad then (acc, r) else loopZ s n (s r).2 (acc ++ [(s r).1])).2.bad = true
      rw [hb]
      exact hb
def nameZ (r : Rz) : ByteArray × Rz := bif decide ((smallZ 32 r).1 > ((smallZ 32 r).2.b.length : Int) - ((smallZ 32 r).2.at_ : Int)) then (⟨#[]⟩, ⟨(smallZ 32 r).2.b, (smallZ 32 r).2.at_, true⟩)
  else (⟨(((smallZ 32 r).2.b.drop (smallZ 32 r).2.at_).take (smallZ 32 r).1.toNat).toArray⟩, ⟨(smallZ 32 r).2.b, (smallZ 32 r).2.at_ + (smallZ 32 r).1.toNat, (smallZ 32 r).2.bad⟩)
theorem kp_name : Kp nameZ := by
  refine ⟨fun r hr => ?_, fun r hr hb => ?_⟩
  · have h1 := smallZ_ok 32 hr
    have h2 := (smallZ_rng (most := 32) (by decide) (by decide) r).1
    unfold nameZ
    cases h : decide ((smallZ 32 r).1 > ((smallZ 32 r).2.b.length : Int) - ((smallZ 32 r).2.at_ : Int))
    · refine ⟨?_, h1.2⟩
      have h3 := of_decide_eq_false h
      have h4 := h1.1
      unfold Rz.ok at h4 ⊢
      simp only [cond_false]
      omega
    · exact h1
  · have h1 := smallZ_bad 32 hr hb
    unfold nameZ
    cases decide ((smallZ 32 r).1 > ((smallZ 32 r).2.b.length : Int) - ((smallZ 32 r).2.at_ : Int))
    · exact h1
    · rfl
def coreZ (mem : Int) (r : Rz) : Cor × Rz :=
  (⟨(nameZ r).1, (loopZ (insZ (smallZ 16384 (nameZ r).2).1 mem) (smallZ 16384 (nameZ r).2).1.toNat (smallZ 16384 (nameZ r).2).2 []).1⟩, (loopZ (insZ (smallZ 16384 (nameZ r).2).1 mem) (smallZ 16384 (nameZ r).2).1.toNat (smallZ 16384 (nameZ r).2).2 []).2)
theorem kp_core (mem : Int) : Kp (coreZ mem) := by
  refine ⟨fun r hr => ?_, fun r hr hb => ?_⟩
  · have h1 := kp_name.ok r hr
    have h2 := smallZ_ok 16384 h1.1
    have h3 := (kp_loop (kp_ins (smallZ 16384 (nameZ r).2).1 mem) (smallZ 16384 (nameZ r).2).1.toNat []).ok _ h2.1
    exact ⟨h3.1, h3.2.trans (h2.2.trans h1.2)⟩
  · have h1 := kp_name.ok r hr
    have h2 := smallZ_ok 16384 h1.1
    have b1 := kp_name.bad r hr hb
    have b2 := smallZ_bad 16384 h1.1 b1
    exact (kp_loop (kp_ins (smallZ 16384 (nameZ r).2).1 mem) (smallZ 16384 (nameZ r).2).1.toNat []).bad _ h2.1 b2
theorem coreZ_brk {mem : Int} {r : Rz} (hr : r.ok) (h : (nameZ r).2.bad = true) : (coreZ mem r).2.bad = true := by
  have h1 := kp_name.ok r hr
  have h2 := smallZ_ok 16384 h1.1
  exact (kp_loop (kp_ins (smallZ 16384 (nameZ r).2).1 mem) (smallZ 16384 (nameZ r).2).1.toNat []).bad _ h2.1 (smallZ_bad 16384 h1.1 h)
theorem loop_brk {mem : Int} {r : Rz} {m : Nat} {cs : List Cor} (hr : r.ok) (h : (nameZ r).2.bad = true) : (loopZ (coreZ mem) (m + 1) r cs).2.bad = true := by
  show (bif r.bad then (cs, r) else loopZ (coreZ mem) m (coreZ mem r).2 (cs ++ [(coreZ mem r).1])).2.bad = true
  cases hb : r.bad
  · exact (kp_loop (kp_core mem) m _).bad _ ((kp_core mem).ok r hr).1 (coreZ_brk hr h)
  · exact hb
def decHZ (r : Rz) : Ob × Rz :=
  let a := smallZ 64 r
  let b := smallZ 16 a.2
  let c := smallZ 16 b.2
  let n := smallZ 4096 c.2
  let m := loopZ wordZ n.1.toNat n.2 []
  let k := smallZ 8 m.2
  let cs := loopZ (coreZ n.1) k.1.toNat k.2 []
  (⟨m.1, a.1, b.1, c.1, cs.1⟩, cs.2)
def decFZ (p : Ob × Rz) : Ob × Int := bif p.2.bad || ((p.2.at_ : Int) != (p.2.b.length : Int)) || (checkO p.1).1 != 0 then (emptyO, 162) else (p.1, 0)
theorem decFZ_bad {p : Ob × Rz} (h : p.2.bad = true) : decFZ p = (emptyO, 162) := by
  unfold decFZ
  rw [h]; rfl
def decZ (b : List UInt8) : Ob × Int := if b.take 4 = magicL then decFZ (decHZ ⟨b, 4, false⟩) else (emptyO, 162)
theorem take4 {b : List UInt8} {c0 c1 c2 c3 : UInt8} (h0 : b[0]? = some c0) (h1 : b[1]? = some c1) (h2 : b[2]? = some c2) (h3 : b[3]? = some c3) : b.take 4 = [c0, c1, c2, c3] := by
  obtain _ | ⟨a0, _ | ⟨a1, _ | ⟨a2, _ | ⟨a3, l⟩⟩⟩⟩ := b
  · cases h0
  · cases h1
  · cases h2
  · cases h3
  · simp only [List.getElem?_cons_zero, List.getElem?_cons_succ, Option.some.injEq] at h0 h1 h2 h3
    subst h0 h1 h2 h3
    rfl
theorem u8_of {c : UInt8} {n : Nat} (hn : n < 256) (h : ((c.toNat : Int) != (n : Int)) = false) : c = UInt8.ofNat n := by
  have h := by simpa using h
  have h : c.toNat = n := by omega
  rw [← h]; simp
end Go.Proofs.YtffhoknkfohfgaaGreatDoor.am

namespace Go.Proofs.YtffhoknkfohfgaaGreatDoor.am
open Go Go.Proofs
theorem limT_ok {code mem : Int} (hc : code ≤ 16384) (hm : mem ≤ 4096) : LimOk limT code mem := ⟨by decide, by decide, by show mem ≤ 16384; omega, by show code ≤ 16384; omega, by decide, by decide, by decide, by decide⟩
end Go.Proofs.YtffhoknkfohfgaaGreatDoor.am

namespace Go.Proofs.YtffhoknkfohfgaaGreatDoor.am
open Go Go.Proofs
/-- a step that is not bad reads what q reads, or it is bad; what is bad stays so -/
structure Lf {α β : Type} (s : Rz → α × Rz) (q : PO β) (f : β → α) : Prop where
  kp : Kp s
  rd : ∀ (b : List UInt8) (at_ : Nat), at_ ≤ b.length → match q (b.drop at_) with
    | none => (s ⟨b, at_, false⟩).2.bad = true
    | some (m, r) => ∃ at', s ⟨b, at_, false⟩ = (f m, ⟨b, at', false⟩) ∧ b.drop at' = r ∧ at' ≤ b.length
theorem lf_of {α β : Type} {s : Rz → α × Rz} {q : PO β} {f : β → α} (h : Lk s q f) (k : Kp s) : Lf s q f := ⟨k, fun b at_ h1 => h b at_ false h1⟩
theorem lf_ret {α : Type} (a : α) : Lf (fun r => (a, r)) (fun l => some (a, l)) id := lf_of (lk_ret a) (kp_ret a)
theorem lf_bind {α β γ δ : Type} {s : Rz → α × Rz} {q : PO β} {f : β → α} {s' : α → Rz → γ × Rz} {q' : β → PO δ} {f' : δ → γ} (h : Lf s q f) (h' : ∀ m l l', q l = some (m, l') → Lf (s' (f m)) (q' m) f') (k' : ∀ a, Kp (s' a)) :
    Lf (fun r => s' (s r).1 (s r).2) (bindO q q') f' := by
  refine ⟨kp_bind h.kp k', fun b at_ ha => ?_⟩
  have h1 := h.rd b at_ ha
  have h2 := h.kp.ok ⟨b, at_, false⟩ ha
  rcases hq : q (b.drop at_) with _ | ⟨m, l'⟩
  · rw [hq] at h1
    rw [bindO_none hq]
    exact (k' _).bad _ h2.1 h1
  · rw [hq] at h1
    obtain ⟨a', e1, e2, e3⟩ := h1
    have h3 := (h' m _ _ hq).rd b a' e3
    rw [e2] at h3
    rw [bindO_some hq, e1]
    exact h3
theorem lf_loopA {α : Type} {s : Rz → α × Rz} {q : PO α} (h : Lf s q id) : ∀ (n : Nat) (b : List UInt8) (at_ : Nat) (acc : List α), at_ ≤ b.length → match repO q n (b.drop at_) with
    | none => (loopZ s n ⟨b, at_, false⟩ acc).2.bad = true
    | some (xs, r) => ∃ at', loopZ s n ⟨b, at_, false⟩ acc = (acc ++ xs, ⟨b, at', false⟩) ∧ b.drop at' = r ∧ at' ≤ b.length
  | 0, b, at_, acc, ha => ⟨at_, by rw [List.append_nil]; rfl, rfl, ha⟩
  | n + 1, b, at_, acc, ha => by
    have h1 := h.rd b at_ ha
    have h2 := h.kp.ok ⟨b, at_, false⟩ ha
    show match (match q (b.drop at_) with | none => none | some (a, l) => match repO q n l with | none => none | some (xs, r) => some (a :: xs, r)) with
      | none => (loopZ s n (s ⟨b, at_, false⟩).2 (acc ++ [(s ⟨b, at_, false⟩).1])).2.bad = true
      | some (xs, r) => ∃ at', loopZ s n (s ⟨b, at_, false⟩).2 (acc ++ [(s ⟨b, at_, false⟩).1]) = (acc ++ xs, ⟨b, at', false⟩) ∧ b.drop at' = r ∧ at' ≤ b.length
    rcases hq : q (b.drop at_) with _ | ⟨m, l'⟩
    · rw [hq] at h1
      exact (kp_loop h.kp n _).bad _ h2.1 h1
    · rw [hq] at h1
      obtain ⟨a', e1, e2, e3⟩ := h1
      have h3 := lf_loopA h n b a' (acc ++ [m]) e3
      rw [e2] at h3
      rw [e1]
      simp only
      rcases hr : repO q n l' with _ | ⟨xs, r⟩
      · rw [hr] at h3; exact h3
      · rw [hr] at h3
        obtain ⟨a2, f1, f2, f3⟩ := h3
        exact ⟨a2, by rw [show id m = m from rfl, f1, List.append_assoc]; rfl, f2, f3⟩
theorem lf_loop {α : Type} {s : Rz → α × Rz} {q : PO α} (h : Lf s q id) (n : Nat) : Lf (fun r => loopZ s n r []) (repO q n) id :=
  ⟨kp_loop h.kp n [], fun b at_ ha => by
    have := lf_loopA h n b at_ [] ha
    rcases hr : repO q n (b.drop at_) with _ | ⟨xs, r⟩
    · rw [hr] at this; exact this
    · rw [hr] at this; exact this⟩
theorem lf_name : Lf nameZ nameO id := by
  refine ⟨kp_name, fun b at_ ha => ?_⟩
  have h1 := lk_small 32 (by decide) b at_ false ha
  unfold nameO nameZ
  rcases hq : smallO 32 (b.drop at_) with _ | ⟨n, l'⟩
  · rw [hq] at h1
    simp only
    cases decide ((smallZ 32 ⟨b, at_, false⟩).1 > ((smallZ 32 ⟨b, at_, false⟩).2.b.length : Int) - ((smallZ 32 ⟨b, at_, false⟩).2.at_ : Int))
    · exact h1
    · rfl
  · rw [hq] at h1
    obtain ⟨a', e1, e2, e3⟩ := h1
    have hl : l'.length = b.length - a' := by rw [← e2, List.length_drop]
    replace e1 : smallZ (32 : Int) ⟨b, at_, false⟩ = ((n : Int), ⟨b, a', false⟩) := e1
    rw [e1]
    simp only
    by_cases hn : n ≤ l'.length
    · rw [if_pos hn, show decide (((n : Nat) : Int) > (b.length : Int) - (a' : Int)) = false from decide_eq_false (by omega)]
      refine ⟨a' + n, ?_, by rw [← e2, List.drop_drop], by omega⟩
      rw [← e2]; rfl
    · rw [if_neg hn, show decide (((n : Nat) : Int) > (b.length : Int) - (a' : Int)) = true from decide_eq_true (by omega)]
      rfl
abbrev limZ (mem code : Nat) : Lim := ⟨19, 16, mem, code⟩
theorem coreO_bind (L : Nat → Lim) (l : List UInt8) : coreO L l = bindO nameO (fun s => bindO (smallO 16384) fun n => bindO (repO (instrO (L n)) n) fun c l => some ((⟨s, c⟩ : Cor), l)) l := by
  unfold coreO bindO
  rcases nameO l with _ | ⟨s, l⟩
  · rfl
  simp only
  rcases smallO 16384 l with _ | ⟨n, l⟩
  · rfl
  simp only
  rcases repO (instrO (L n)) n l with _ | ⟨c, l⟩ <;> rfl
def c2 (s : ByteArray) (c : List Ins) : Rz → Cor × Rz := fun r => (⟨s, c⟩, r)
def c1 (mem : Int) (s : ByteArray) (n : Int) : Rz → Cor × Rz := fun r => c2 s (loopZ (insZ n mem) n.toNat r []).1 (loopZ (insZ n mem) n.toNat r []).2
def c0 (mem : Int) (s : ByteArray) : Rz → Cor × Rz := fun r => c1 mem s (smallZ 16384 r).1 (smallZ 16384 r).2
theorem kp_c1 (mem : Int) (s : ByteArray) (n : Int) : Kp (c1 mem s n) := kp_bind (s := fun r => loopZ (insZ n mem) n.toNat r []) (s' := fun c => c2 s c) (kp_loop (kp_ins n mem) _ _) fun c => kp_ret _
theorem kp_c0 (mem : Int) (s : ByteArray) : Kp (c0 mem s) := kp_bind (s := smallZ 16384) (s' := fun n => c1 mem s n) (kp_small _) fun n => kp_c1 mem s n
theorem lf_c1 (mem : Nat) (s : ByteArray) (n : Nat) (hc : n < 9223372036854775808) (hm : mem < 9223372036854775808) : Lf (c1 (mem : Nat) s (n : Nat)) (bindO (repO (instrO (limZ mem n)) n) fun c l => some ((⟨s, c⟩ : Cor), l)) id :=
  lf_bind (s := fun r => loopZ (insZ (n : Nat) (mem : Nat)) ((n : Nat) : Int).toNat r []) (f := id) (s' := fun c => c2 s c) (lf_loop (lf_of (lk_ins hc hm) (kp_ins _ _)) n) (fun m _ _ _ => lf_ret _) fun c => kp_ret _
theorem lf_c0 (mem : Nat) (s : ByteArray) (hm : mem < 9223372036854775808) : Lf (c0 (mem : Nat) s) (bindO (smallO 16384) fun n => bindO (repO (instrO (limZ mem n)) n) fun c l => some ((⟨s, c⟩ : Cor), l)) id :=
  lf_bind (s := smallZ 16384) (f := fun n : Nat => (n : Int)) (s' := fun n => c1 (mem : Nat) s n) (lf_of (lk_small 16384 (by decide)) (kp_small _)) (fun m _ _ h => lf_c1 mem s m (by have := (smallO_inv h).1; omega) hm) fun n => kp_c1 _ s n
theorem lf_core (mem : Nat) (hm : mem < 9223372036854775808) : Lf (coreZ (mem : Nat)) (coreO (limZ mem)) id := by
  have h : Lf (fun r => c0 (mem : Nat) (nameZ r).1 (nameZ r).2) (bindO nameO (fun s => bindO (smallO 16384) fun n => bindO (repO (instrO (limZ mem n)) n) fun c l => some ((⟨s, c⟩ : Cor), l))) id :=
    lf_bind (s := nameZ) (f := id) (s' := fun s => c0 (mem : Nat) s) lf_name (fun s _ _ _ => lf_c0 mem s hm) fun s => kp_c0 _ s
  have e : coreO (limZ mem) = _ := funext (coreO_bind (limZ mem))
  rw [e]
  exact h
/-! objects -/
def obT (L : Nat → Nat → Lim) : PO Ob := bindO (smallO 64) fun a => bindO (smallO 16) fun b => bindO (smallO 16) fun c => bindO (smallO 4096) fun n => bindO (repO wordO n) fun m => bindO (smallO 8) fun k => bindO (repO (coreO (L n)) k) fun cs l => some ((⟨m, a, b, c, cs⟩ : Ob), l)
theorem obO_bind (L : Nat → Nat → Lim) (l : List UInt8) : obO L l = if l.take 4 = magicL then obT L (l.drop 4) else none := by
  unfold obO obT bindO
  by_cases hm : l.take 4 = magicL
  · rw [if_pos hm, if_pos hm]
    rcases smallO 64 (l.drop 4) with _ | ⟨a, l⟩
    · rfl
    simp only
    rcases smallO 16 l with _ | ⟨b, l⟩
    · rfl
    simp only
    rcases smallO 16 l with _ | ⟨c, l⟩
    · rfl
    simp only
    rcases smallO 4096 l with _ | ⟨n, l⟩
    · rfl
    simp only
    rcases repO wordO n l with _ | ⟨m, l⟩
    · rfl
    simp only
    rcases smallO 8 l with _ | ⟨k, l⟩
    · rfl
    simp only
    rcases repO (coreO (L n)) k l with _ | ⟨cs, l⟩ <;> rfl
  · rw [if_neg hm, if_neg hm]
def e7 (a b c : Int) (m : List Int) (cs : List Cor) : Rz → Ob × Rz := fun r => (⟨m, a, b, c, cs⟩, r)
def e6 (a b c n : Int) (m : List Int) (k : Int) : Rz → Ob × Rz := fun r => e7 a b c m (loopZ (coreZ n) k.toNat r []).1 (loopZ (coreZ n) k.toNat r []).2
def e5 (a b c n : Int) (m : List Int) : Rz → Ob × Rz := fun r => e6 a b c n m (smallZ 8 r).1 (smallZ 8 r).2
def e4 (a b c n : Int) : Rz → Ob × Rz := fun r => e5 a b c n (loopZ wordZ n.toNat r []).1 (loopZ wordZ n.toNat r []).2
def e3 (a b c : Int) : Rz → Ob × Rz := fun r => e4 a b c (smallZ 4096 r).1 (smallZ 4096 r).2
def e2 (a b : Int) : Rz → Ob × Rz := fun r => e3 a b (smallZ 16 r).1 (smallZ 16 r).2
def e1 (a : Int) : Rz → Ob × Rz := fun r => e2 a (smallZ 16 r).1 (smallZ 16 r).2
theorem kp_e6 (a b c n : Int) (m : List Int) (k : Int) : Kp (e6 a b c n m k) := kp_bind (s := fun r => loopZ (coreZ n) k.toNat r []) (s' := fun cs => e7 a b c m cs) (kp_loop (kp_core n) _ _) fun _ => kp_ret _
theorem kp_e5 (a b c n : Int) (m : List Int) : Kp (e5 a b c n m) := kp_bind (s := smallZ 8) (s' := fun k => e6 a b c n m k) (kp_small _) fun k => kp_e6 a b c n m k
theorem kp_e4 (a b c n : Int) : Kp (e4 a b c n) := kp_bind (s := fun r => loopZ wordZ n.toNat r []) (s' := fun m => e5 a b c n m) (kp_loop kp_word _ _) fun m => kp_e5 a b c n m
theorem kp_e3 (a b c : Int) : Kp (e3 a b c) := kp_bind (s := smallZ 4096) (s' := fun n => e4 a b c n) (kp_small _) fun n => kp_e4 a b c n
theorem kp_e2 (a b : Int) : Kp (e2 a b) := kp_bind (s := smallZ 16) (s' := fun c => e3 a b c) (kp_small _) fun c => kp_e3 a b c
theorem kp_e1 (a : Int) : Kp (e1 a) := kp_bind (s := smallZ 16) (s' := fun b => e2 a b) (kp_small _) fun b => kp_e2 a b
abbrev q6T (a b c n : Nat) (m : List Int) (k : Nat) : PO Ob := bindO (repO (coreO (limZ n)) k) fun cs l => some ((⟨m, a, b, c, cs⟩ : Ob), l)
abbrev q5T (a b c n : Nat) (m : List Int) : PO Ob := bindO (smallO 8) fun k => q6T a b c n m k
abbrev q4T (a b c n : Nat) : PO Ob := bindO (repO wordO n) fun m => q5T a b c n m
abbrev q3T (a b c : Nat) : PO Ob := bindO (smallO 4096) fun n => q4T a b c n
abbrev q2T (a b : Nat) : PO Ob := bindO (smallO 16) fun c => q3T a b c
abbrev q1T (a : Nat) : PO Ob := bindO (smallO 16) fun b => q2T a b
theorem lf_e6 (a b c n : Nat) (hm : n < 9223372036854775808) (m : List Int) (k : Nat) : Lf (e6 a b c n m k) (q6T a b c n m k) id :=
  lf_bind (s := fun r => loopZ (coreZ (n : Nat)) ((k : Nat) : Int).toNat r []) (f := id) (s' := fun cs => e7 a b c m cs) (lf_loop (lf_core n hm) k) (fun m _ _ _ => lf_ret _) fun c => kp_ret _
theorem lf_e5 (a b c n : Nat) (hm : n < 9223372036854775808) (m : List Int) : Lf (e5 a b c n m) (q5T a b c n m) id :=
  lf_bind (s := smallZ 8) (f := fun n : Nat => (n : Int)) (s' := fun k => e6 a b c n m k) (lf_of (lk_small 8 (by decide)) (kp_small _)) (fun k _ _ _ => lf_e6 a b c n hm m k) fun k => kp_e6 a b c n m k
theorem lf_wd : Lf wordZ wordO id := lf_of lk_word kp_word
theorem lf_e4 (a b c n : Nat) (hm : n < 9223372036854775808) : Lf (e4 a b c n) (q4T a b c n) id :=
  lf_bind (s := fun r => loopZ wordZ ((n : Nat) : Int).toNat r []) (f := id) (s' := fun m => e5 a b c n m) (lf_loop lf_wd n) (fun m _ _ _ => lf_e5 a b c n hm m) fun m => kp_e5 a b c n m
theorem lf_e3 (a b c : Nat) : Lf (e3 a b c) (q3T a b c) id :=
  lf_bind (s := smallZ 4096) (f := fun n : Nat => (n : Int)) (s' := fun n => e4 a b c n) (lf_of (lk_small 4096 (by decide)) (kp_small _)) (fun n _ _ h => lf_e4 a b c n (by have := (smallO_inv h).1; omega)) fun n => kp_e4 a b c n
theorem lf_e2 (a b : Nat) : Lf (e2 a b) (q2T a b) id :=
  lf_bind (s := smallZ 16) (f := fun n : Nat => (n : Int)) (s' := fun c => e3 a b c) (lf_of (lk_small 16 (by decide)) (kp_small _)) (fun c _ _ _ => lf_e3 a b c) fun c => kp_e3 a b c
theorem lf_e1 (a : Nat) : Lf (e1 a) (q1T a) id :=
  lf_bind (s := smallZ 16) (f := fun n : Nat => (n : Int)) (s' := fun b => e2 a b) (lf_of (lk_small 16 (by decide)) (kp_small _)) (fun b _ _ _ => lf_e2 a b) fun b => kp_e2 a b
theorem lf_dec : Lf decHZ (obT limZ) id :=
  lf_bind (s := smallZ 64) (f := fun n : Nat => (n : Int)) (s' := fun a => e1 a) (lf_of (lk_small 64 (by decide)) (kp_small _)) (fun a _ _ _ => lf_e1 a) fun a => kp_e1 a
/-- where the object's bytes are right, the reader of the reference reads them as they are -/
theorem decHZ_some {b : List UInt8} {o : Ob} {r : List UInt8} (h : obO limZ b = some (o, r)) : b.take 4 = magicL ∧ ∃ a, decHZ ⟨b, 4, false⟩ = (o, ⟨b, a, false⟩) ∧ b.drop a = r ∧ a ≤ b.length := by
  rw [obO_bind] at h
  split at h
  · rename_i hm
    refine ⟨hm, ?_⟩
    have h4 : 4 ≤ b.length := by
      have := congrArg List.length hm
      rw [List.length_take] at this
      simp only [magicL, List.length_cons, List.length_nil] at this; omega
    have := lf_dec.rd b 4 h4
    rw [h] at this
    exact this
  · cases h
theorem decHZ_none {b : List UInt8} (hm : b.take 4 = magicL) (h : obO limZ b = none) : (decHZ ⟨b, 4, false⟩).2.bad = true := by
  rw [obO_bind, if_pos hm] at h
  have h4 : 4 ≤ b.length := by
    have := congrArg List.length hm
    rw [List.length_take] at this
    simp only [magicL, List.length_cons, List.length_nil] at this; omega
  have := lf_dec.rd b 4 h4
  rw [h] at this
  exact this
theorem lim_T {o : Ob} (hG : Good o) : ∀ c ∈ o.cores, LimOk (limTT o.memory.length c.code.length) c.code.length o.memory.length := fun c hc => limT_ok (by have := (hG.code c hc).2; omega) (by have := hG.mem; omega)
theorem lim_Z {o : Ob} (hG : Good o) : ∀ c ∈ o.cores, LimOk (limZ o.memory.length c.code.length) c.code.length o.memory.length := fun c hc => ⟨(by decide : 18 ≤ 19), (by decide : 15 ≤ 16), Int.le_refl _, Int.le_refl _, (by decide : 19 < 9223372036854775808), (by decide : 16 < 9223372036854775808), by have := hG.mem; show o.memory.length < _; omega, by have := (hG.code c hc).2; show c.code.length < _; omega⟩
theorem decZ_eq (b : List UInt8) : decZ b = decS b := by
  rcases decS_cases b with ⟨o, h1, h2, h3⟩ | ⟨h1, h2⟩
  · rw [h3]
    have hG := check_good h2
    have hR := ob_rng h1
    have hb := ob_inv h1
    rw [List.append_nil] at hb
    have hZ := ob_enc hG hR (lim_Z hG) []
    rw [List.append_nil, ← hb] at hZ
    obtain ⟨hm, a, e1, e2, e3⟩ := decHZ_some hZ
    have ha : a = b.length := by
      have := congrArg List.length e2
      rw [List.length_drop, List.length_nil] at this; omega
    unfold decZ
    rw [if_pos hm, e1]
    unfold decFZ
    simp only [h2, ha]
    simp
  · rw [h1]
    unfold decZ
    split
    · rename_i hm
      rcases hq : obO limZ b with _ | ⟨o, r⟩
      · exact decFZ_bad (decHZ_none hm hq)
      · obtain ⟨_, a, e1, e2, e3⟩ := decHZ_some hq
        rw [e1]
        unfold decFZ
        simp only
        by_cases hc : (checkO o).1 = 0
        · by_cases ha : a = b.length
          · subst ha
            rw [List.drop_eq_nil_of_le (Nat.le_refl _)] at e2
            subst e2
            have hb := ob_inv hq
            rw [List.append_nil] at hb
            have hG := check_good hc
            have hT := ob_enc hG (ob_rng hq) (lim_T hG) []
            rw [List.append_nil, ← hb] at hT
            exact absurd hc (h2 o hT)
          · rw [show (((a : Nat) : Int) != (b.length : Int)) = true by simp; omega]
            rfl
        · rw [show ((checkO o).1 != 0) = true by simpa using hc]
          simp
    · rfl
end Go.Proofs.YtffhoknkfohfgaaGreatDoor.am
