/- The model of a store: Find, Get, Names. The shelf's contracts that the walks of this seat use, in plain declarations (written by the kit's tool, trimmed by a program). row.Number, row.Numbers; strconv.Itoa and Atoi as the program uses them. Numerals, in plain words: what strconv.Itoa writes, strconv.Atoi reads. Of no program. row.Numbers: the walk. Texts as lists of bytes: how the walk's forms are brought to them. The reference's numbers in plain words: they are the program's. Of no program. deedboxref1: Byte, below, Decimal: the numeral. -/
import Derived.Test.YtpfohfihkmjnaaaGreatDoorPk1
import Derived.Shelf.Strings.Trim
import Derived.Shelf.Small.Utf8
import Derived.Shelf.Small.Bits
import Derived.Shelf.Small.Strs
import Derived.Shelf.Small.Wraps
import Derived.Shelf.Strconv.Atoi
import Derived.Shelf.Strconv.Itoa0
import Derived.Shelf.Strconv.Itoa1
import Derived.Shelf.LaysM
import Derived.Shelf.Strconv.Itoa2
import Derived.Shelf.Strconv.Itoa3
import Derived.Shelf.Strconv.AtoiErrFast
import Derived.Shelf.Strconv.ParseIntEmpty
import Derived.Shelf.Strconv.AtoiFail
import Derived.Shelf.Strconv.Clone
import Derived.Shelf.Strconv.SyntaxError
import Derived.Shelf.LaysC
import Derived.Shelf.Strconv.ToError
import Derived.Shelf.Strconv.Lower
import Derived.Shelf.Strconv.ParseUint10
import Derived.Shelf.Strconv.ParseUint10Empty
import Derived.Shelf.Strconv.ParseUint10Any
import Derived.Shelf.Strconv.ParseInt10
import Derived.Shelf.Strconv.AtoiLong
import Derived.Shelf.Strconv.AtoiInnerAll
import Derived.Shelf.Strconv.RangeError
import Derived.Shelf.Strconv.ToErrorRange
import Derived.Shelf.Strconv.AtoiAll
import Derived.Shelf.Strconv.ErrVarAll
import Derived.Shelf.Strings.Search1
import Derived.Shelf.Strings.Search2
import Derived.Shelf.Strings.Search3
import Derived.Shelf.Strings.Cut
import Derived.Shelf.Strings.Count
import Derived.Shelf.Strings.Shaped
import Derived.Shelf.Strings.Split
import Derived.Shelf.Strings.Runes
import Derived.Shelf.Strings.AsciiSet
import Derived.Shelf.Unicode.DecodeSlow
import Derived.Shelf.Slices.Turned
import Derived.Ground.Names2Prog
import Derived.Shelf.Slices.SearchI
import Derived.Shelf.Slices.Empties
import Derived.Test.YtpfohfihkmjnaaaGreatDoorProg
import Derived.Lib.AtoiAllCases
import Derived.Lib.AtoiTie
import Derived.Lib.ItoaLen
import Derived.Laws.BytesArg
import Derived.Outline
namespace Go.Proofs.YtpfohfihkmjnaaaGreatDoor
open Go.RowKit Go.Maps
theorem szOb (w : World) : (sizeOf 153).run Tryz.prog w = .ok 3 w := by kernel_rfl
/-- Where a name is. -/
def FindR (l : List Ob) (n : Str) (r : Int) : Prop := (∃ (k : Nat) (o : Ob), r = k ∧ l[k]? = some o ∧ o.name = n) ∨ (r = -1 ∧ getO l n = none)
theorem FindR.got {l : List Ob} {n : Str} {r : Int} (h : FindR l n r) (hr : Rising l) : (∃ (k : Nat) (o : Ob), r = k ∧ k < l.length ∧ l[k]? = some o ∧ o.name = n ∧ getO l n = some o) ∨ (r = -1 ∧ getO l n = none) := by
  rcases h with ⟨k, o, h1, h2, h3⟩ | h
  · exact .inl ⟨k, o, h1, (List.getElem?_eq_some_iff.1 h2).1, h2, h3, h3 ▸ getO_of_mem hr (List.mem_of_getElem? h2)⟩
  · exact .inr h
set_option maxRecDepth 20000 in
theorem findM_any (B xb : Nat) (v : Value) (s : St) (n : Str) (w : World) (h : ModAt w B xb v s) :
    Calls Tryz.prog 87 #[stP xb, S n] w fun e w' => ∃ r, e = .returned (.int .i64 r) ∧ FindR s.objs n r ∧ Below w.heap.size w w' := by
  obtain ⟨a, c, b, o, rfl, ha, -, hm, hx⟩ := h.own.at encO_enc
  unfold maxLen at hm
  have hn := h.ok.num
  have c0 := h.c0
  have H := Lib.hid h; clear h
  go_enter Tryz.func87, Tryz.ntmps87
  go_wp2_with fail
  go_loopw [5] (fun i wr => ∃ k : Nat, k ≤ s.objs.length ∧ i = .int .i64 k ∧ Hid (∀ j < k, ∀ x, s.objs[j]? = some x → x.name ≠ n) ∧ Below w.heap.size w wr) (fun i _ => s.objs.length - (intOf i).toNat)
  case atStart => exact ⟨0, by omega, rfl, Lib.hid fun j hj => absurd hj (by omega), Below.refl _ _⟩
  case round =>
    obtain ⟨k, hk, rfl, hj, hb⟩ := hrel
    have c0 := (hb.cell (World.block_lt_of_cell? w _ c0)).trans c0
    by_cases hlt : k < s.objs.length
    case neg =>
      have f : decide ((k : Int) < (s.objs.length : Int)) = false := by simp; omega
      go_wp2_with fail
      go_ret
      refine ⟨_, rfl, .inr ⟨rfl, getO_none.2 fun x hx => ?_⟩, hb⟩
      obtain ⟨j, hj'⟩ := List.getElem?_of_mem hx
      exact hj.out j (by have := (List.getElem?_eq_some_iff.1 hj').1; omega) x hj'
    obtain ⟨x, hxk⟩ := get_ex hlt
    have q0 := hx k x hxk 0 _ rfl
    have q0 := (hb.cell (World.block_lt_of_cell? w _ q0)).trans q0
    have i1 := idx_at (c := c) 3 Tryz.underlying129 szOb ha k hlt
    have f : (k : Int) < (s.objs.length : Int) := by omega
    simp only [Nat.add_zero] at q0
    have Hx := Lib.hid hxk; clear hxk
    by_cases e : x.name = n
    case pos =>
      have g : (x.name == n) = true := by simpa using e
      have HE := Lib.hid e; clear e
      go_wp2_with fail
      go_ret
      exact ⟨_, rfl, .inl ⟨k, x, rfl, Hx.out, HE.out⟩, hb⟩
    have g : (x.name == n) = false := by simpa using e
    have HE := Lib.hid e; clear e
    go_wp2_with fail
    refine ⟨⟨k + 1, by omega, by go_num, Lib.hid fun j hj' y hy => ?_, hb⟩, by simp [intOf]; omega⟩
    rcases Nat.lt_or_ge j k with h | h
    · exact hj.out j h y hy
    · obtain rfl : j = k := by omega
      rw [Hx.out] at hy
      cases hy
      exact HE.out
end Go.Proofs.YtpfohfihkmjnaaaGreatDoor
namespace Go.Proofs
open Go.Shelf
def Tryz.lays160_ren : Go.Shelf.Ren := ⟨fun | 160 => 123 | 232 => 161 | 231 => 160 | 227 => 162 | 234 => 164 | 233 => 163 | 236 => 166 | 235 => 165 | 228 => 183 | 271 => 186 | 151 => 185 | 197 => 184 | 120 => 207 | 152 => 206 | 260 => 205 | 137 => 223 | 119 => 224 | 224 => 225 | 225 => 226 | 217 => 227 | 266 => 239 | n => n, fun | 9 => 9 | 4 => 4 | 3 => 3 | 5 => 5 | 117 => 233 | 116 => 232 | 0 => 0 | 124 => 236 | 21 => 21 | 105 => 266 | 46 => 208 | 119 => 298 | 139 => 301 | 138 => 300 | n => n, fun | 3 => 14 | 4 => 15 | n => n⟩
theorem Tryz.lays160 : Go.Proofs.Lays.n160 Tryz.prog Tryz.lays160_ren := {
  mixed := by kernel_rfl
  f119 := Tryz.func224.trans (congrArg some (by kernel_rfl))
  f120 := Tryz.func207.trans (congrArg some (by kernel_rfl))
  f137 := Tryz.func223.trans (congrArg some (by kernel_rfl))
  f151 := Tryz.func185.trans (congrArg some (by kernel_rfl))
  f152 := Tryz.func206.trans (congrArg some (by kernel_rfl))
  f160 := Tryz.func123.trans (congrArg some (by kernel_rfl))
  f197 := Tryz.func184.trans (congrArg some (by kernel_rfl))
  f217 := Tryz.func227.trans (congrArg some (by kernel_rfl))
  f224 := Tryz.func225.trans (congrArg some (by kernel_rfl))
  f225 := Tryz.func226.trans (congrArg some (by kernel_rfl))
  f227 := Tryz.func162.trans (congrArg some (by kernel_rfl))
  f228 := Tryz.func183.trans (congrArg some (by kernel_rfl))
  f231 := Tryz.func160.trans (congrArg some (by kernel_rfl))
  f232 := Tryz.func161.trans (congrArg some (by kernel_rfl))
  f233 := Tryz.func163.trans (congrArg some (by kernel_rfl))
  f234 := Tryz.func164.trans (congrArg some (by kernel_rfl))
  f235 := Tryz.func165.trans (congrArg some (by kernel_rfl))
  f236 := Tryz.func166.trans (congrArg some (by kernel_rfl))
  f260 := Tryz.func205.trans (congrArg some (by kernel_rfl))
  f266 := Tryz.func239.trans (congrArg some (by kernel_rfl))
  f271 := Tryz.func186.trans (congrArg some (by kernel_rfl))
  t0 := Tryz.underlying0
  a0 := Tryz.isAgg0
  z0 := Tryz.sizeOf0
  v0 := Tryz.zeroValue0
  t3 := Tryz.underlying3
  a3 := Tryz.isAgg3
  z3 := Tryz.sizeOf3
  v3 := Tryz.zeroValue3
  t4 := Tryz.underlying4
  a4 := Tryz.isAgg4
  z4 := Tryz.sizeOf4
  v4 := Tryz.zeroValue4
  t5 := Tryz.underlying5
  a5 := Tryz.isAgg5
  z5 := Tryz.sizeOf5
  v5 := Tryz.zeroValue5
  t9 := Tryz.underlying9
  a9 := Tryz.isAgg9
  z9 := Tryz.sizeOf9
  v9 := Tryz.zeroValue9
  t21 := Tryz.underlying21
  a21 := Tryz.isAgg21
  z21 := Tryz.sizeOf21
  v21 := Tryz.zeroValue21
  t46 := Tryz.underlying208
  a46 := Tryz.isAgg208
  z46 := Tryz.sizeOf208
  v46 := Tryz.zeroValue208
  t105 := Tryz.underlying266
  a105 := Tryz.isAgg266
  z105 := Tryz.sizeOf266
  v105 := Tryz.zeroValue266
  t116 := Tryz.underlying232
  a116 := Tryz.isAgg232
  z116 := Tryz.sizeOf232
  t117 := Tryz.underlying233
  a117 := Tryz.isAgg233
  z117 := Tryz.sizeOf233
  v117 := Tryz.zeroValue233
  t119 := Tryz.underlying298
  a119 := Tryz.isAgg298
  z119 := Tryz.sizeOf298
  t124 := Tryz.underlying236
  a124 := Tryz.isAgg236
  z124 := Tryz.sizeOf236
  v124 := Tryz.zeroValue236
  t138 := Tryz.underlying300
  a138 := Tryz.isAgg300
  z138 := Tryz.sizeOf300
  v138 := Tryz.zeroValue300
  t139 := Tryz.underlying301
  a139 := Tryz.isAgg301
  z139 := Tryz.sizeOf301
  v139 := Tryz.zeroValue301
  g3 := by kernel_rfl
  g4 := by kernel_rfl }
def Tryz.lays106_ren : Go.Shelf.Ren := ⟨fun | 106 => 43 | 213 => 92 | 265 => 131 | n => n, fun | 9 => 9 | 3 => 3 | n => n, fun | n => n⟩
theorem Tryz.lays106 : Go.Proofs.Lays.n106 Tryz.prog Tryz.lays106_ren := {
  mixed := by kernel_rfl
  f106 := Tryz.func43.trans (congrArg some (by kernel_rfl))
  f213 := Tryz.func92.trans (congrArg some (by kernel_rfl))
  f265 := Tryz.func131.trans (congrArg some (by kernel_rfl))
  t3 := Tryz.underlying3
  a3 := Tryz.isAgg3
  z3 := Tryz.sizeOf3
  v3 := Tryz.zeroValue3
  t9 := Tryz.underlying9
  a9 := Tryz.isAgg9
  z9 := Tryz.sizeOf9
  v9 := Tryz.zeroValue9 }
open Go.RowKit in
theorem Tryz.strings_Compare (a b : ByteArray) (w : World) :
    Calls Tryz.prog 43 #[.string a, .string b] w fun e w' => e = .returned (.int .i64 (Lib.compareBytes a.data.toList b.data.toList)) ∧ w' = w := Any.strings_Compare Tryz.lays106 a b w
def Tryz.laysM171_ren : Go.Shelf.Ren := ⟨fun | 171 => 174 | 243 => 193 | 246 => 217 | 283 => 234 | 284 => 235 | 285 => 236 | 286 => 237 | 129 => 204 | 317 => 243 | 318 => 244 | 319 => 245 | 320 => 246 | 337 => 247 | 338 => 248 | n => n, fun | 3 => 3 | 9 => 9 | 2 => 2 | 4 => 4 | 171 => 310 | 0 => 0 | 53 => 282 | 37 => 264 | 5 => 5 | 173 => 312 | 212 => 324 | 51 => 241 | 20 => 20 | 213 => 325 | 46 => 208 | 232 => 326 | 233 => 327 | n => n, fun | 17 => 18 | 18 => 19 | 19 => 20 | n => n⟩
theorem Tryz.laysM171 : Go.Proofs.LaysM.n171 Tryz.prog Tryz.laysM171_ren := {
  mixed := by kernel_rfl
  f129 := Tryz.func204.trans (congrArg some (by kernel_rfl))
  f171 := Tryz.func174.trans (congrArg some (by kernel_rfl))
  f243 := Tryz.func193.trans (congrArg some (by kernel_rfl))
  f246 := Tryz.func217.trans (congrArg some (by kernel_rfl))
  f283 := Tryz.func234.trans (congrArg some (by kernel_rfl))
  f284 := Tryz.func235.trans (congrArg some (by kernel_rfl))
  f285 := Tryz.func236.trans (congrArg some (by kernel_rfl))
  f286 := Tryz.func237.trans (congrArg some (by kernel_rfl))
  f317 := Tryz.func243.trans (congrArg some (by kernel_rfl))
  f318 := Tryz.func244.trans (congrArg some (by kernel_rfl))
  f319 := Tryz.func245.trans (congrArg some (by kernel_rfl))
  f320 := Tryz.func246.trans (congrArg some (by kernel_rfl))
  f337 := Tryz.func247.trans (congrArg some (by kernel_rfl))
  f338 := Tryz.func248.trans (congrArg some (by kernel_rfl))
  t0 := Tryz.underlying0
  a0 := Tryz.isAgg0
  z0 := Tryz.sizeOf0
  v0 := Tryz.zeroValue0
  t2 := Tryz.underlying2
  a2 := Tryz.isAgg2
  z2 := Tryz.sizeOf2
  v2 := Tryz.zeroValue2
  t3 := Tryz.underlying3
  a3 := Tryz.isAgg3
  z3 := Tryz.sizeOf3
  v3 := Tryz.zeroValue3
  t4 := Tryz.underlying4
  a4 := Tryz.isAgg4
  z4 := Tryz.sizeOf4
  v4 := Tryz.zeroValue4
  t5 := Tryz.underlying5
  a5 := Tryz.isAgg5
  z5 := Tryz.sizeOf5
  v5 := Tryz.zeroValue5
  t9 := Tryz.underlying9
  a9 := Tryz.isAgg9
  z9 := Tryz.sizeOf9
  v9 := Tryz.zeroValue9
  t20 := Tryz.underlying20
  a20 := Tryz.isAgg20
  z20 := Tryz.sizeOf20
  v20 := Tryz.zeroValue20
  t37 := Tryz.underlying264
  a37 := Tryz.isAgg264
  z37 := Tryz.sizeOf264
  v37 := Tryz.zeroValue264
  t46 := Tryz.underlying208
  a46 := Tryz.isAgg208
  z46 := Tryz.sizeOf208
  v46 := Tryz.zeroValue208
  t51 := Tryz.underlying241
  a51 := Tryz.isAgg241
  z51 := Tryz.sizeOf241
  v51 := Tryz.zeroValue241
  t53 := Tryz.underlying282
  a53 := Tryz.isAgg282
  z53 := Tryz.sizeOf282
  v53 := Tryz.zeroValue282
  t171 := Tryz.underlying310
  a171 := Tryz.isAgg310
  z171 := Tryz.sizeOf310
  v171 := Tryz.zeroValue310
  t173 := Tryz.underlying312
  a173 := Tryz.isAgg312
  z173 := Tryz.sizeOf312
  v173 := Tryz.zeroValue312
  t212 := Tryz.underlying324
  a212 := Tryz.isAgg324
  z212 := Tryz.sizeOf324
  v212 := Tryz.zeroValue324
  t213 := Tryz.underlying325
  a213 := Tryz.isAgg325
  z213 := Tryz.sizeOf325
  t232 := Tryz.underlying326
  a232 := Tryz.isAgg326
  z232 := Tryz.sizeOf326
  v232 := Tryz.zeroValue326
  t233 := Tryz.underlying327
  a233 := Tryz.isAgg327
  z233 := Tryz.sizeOf327
  v233 := Tryz.zeroValue327
  g17 := by kernel_rfl
  g18 := by kernel_rfl
  g19 := by kernel_rfl
  i0 := by kernel_rfl
  i2 := by kernel_rfl
  i3 := by kernel_rfl
  i4 := by kernel_rfl
  i5 := by kernel_rfl
  i9 := by kernel_rfl
  i20 := by kernel_rfl
  i37 := by kernel_rfl
  i46 := by kernel_rfl
  i51 := by kernel_rfl
  i53 := by kernel_rfl
  i171 := by kernel_rfl
  i173 := by kernel_rfl
  i212 := by kernel_rfl
  i232 := by kernel_rfl
  i233 := by kernel_rfl
  m17 := by kernel_rfl
  m18 := by kernel_rfl
  m19 := by kernel_rfl }
open Go.RowKit Go.Sort Go.Lib in
theorem Tryz.strconv_Itoa (n : Int) (h0 : -9223372036854775808 ≤ n) (h1 : n ≤ 9223372036854775807) (w : World) (htab : Lib.TabIs Tryz.prog w "internal/strconv.uint64pow10" .u64 Lib.pow10Tab) :
    Calls Tryz.prog 174 #[.int .i64 n] w fun e w' => e = .returned (.string ⟨(Lib.itoa n).toArray⟩) ∧ ∃ k os, w' = grow (w.drewN k) os := Any.strconv_Itoa Tryz.laysM171 n h0 h1 w htab
def Tryz.laysC172_ren : Go.Shelf.Ren := ⟨fun | 172 => 173 | 244 => 191 | 245 => 192 | 247 => 212 | 279 => 213 | 280 => 214 | 281 => 215 | 282 => 216 | 287 => 231 | 316 => 232 | 171 => 174 | 205 => 233 | 321 => 241 | 322 => 242 | 243 => 193 | 246 => 217 | 283 => 234 | 284 => 235 | 285 => 236 | 286 => 237 | 129 => 204 | 317 => 243 | 318 => 244 | 319 => 245 | 320 => 246 | 337 => 247 | 338 => 248 | n => n, fun | 9 => 9 | 3 => 3 | 75 => 35 | 76 => 243 | 4 => 4 | 5 => 5 | 167 => 285 | 37 => 264 | 0 => 0 | 85 => 286 | 2 => 2 | 168 => 288 | 53 => 282 | 175 => 304 | 46 => 208 | 210 => 308 | 127 => 319 | 145 => 322 | 143 => 320 | 21 => 21 | 171 => 310 | 173 => 312 | 212 => 324 | 51 => 241 | 20 => 20 | 213 => 325 | 232 => 326 | 233 => 327 | 80 => 328 | n => n, fun | 15 => 16 | 16 => 17 | 17 => 18 | 18 => 19 | 19 => 20 | n => n⟩
theorem Tryz.laysC172 : Go.Proofs.LaysC.n172 Tryz.prog Tryz.laysC172_ren := {
  mixed := by kernel_rfl
  f129 := Tryz.func204.trans (congrArg some (by kernel_rfl))
  f171 := Tryz.func174.trans (congrArg some (by kernel_rfl))
  f172 := Tryz.func173.trans (congrArg some (by kernel_rfl))
  f205 := Tryz.func233.trans (congrArg some (by kernel_rfl))
  f243 := Tryz.func193.trans (congrArg some (by kernel_rfl))
  f244 := Tryz.func191.trans (congrArg some (by kernel_rfl))
  f245 := Tryz.func192.trans (congrArg some (by kernel_rfl))
  f246 := Tryz.func217.trans (congrArg some (by kernel_rfl))
  f247 := Tryz.func212.trans (congrArg some (by kernel_rfl))
  f279 := Tryz.func213.trans (congrArg some (by kernel_rfl))
  f280 := Tryz.func214.trans (congrArg some (by kernel_rfl))
  f281 := Tryz.func215.trans (congrArg some (by kernel_rfl))
  f282 := Tryz.func216.trans (congrArg some (by kernel_rfl))
  f283 := Tryz.func234.trans (congrArg some (by kernel_rfl))
  f284 := Tryz.func235.trans (congrArg some (by kernel_rfl))
  f285 := Tryz.func236.trans (congrArg some (by kernel_rfl))
  f286 := Tryz.func237.trans (congrArg some (by kernel_rfl))
  f287 := Tryz.func231.trans (congrArg some (by kernel_rfl))
  f316 := Tryz.func232.trans (congrArg some (by kernel_rfl))
  f317 := Tryz.func243.trans (congrArg some (by kernel_rfl))
  f318 := Tryz.func244.trans (congrArg some (by kernel_rfl))
  f319 := Tryz.func245.trans (congrArg some (by kernel_rfl))
  f320 := Tryz.func246.trans (congrArg some (by kernel_rfl))
  f321 := Tryz.func241.trans (congrArg some (by kernel_rfl))
  f322 := Tryz.func242.trans (congrArg some (by kernel_rfl))
  f337 := Tryz.func247.trans (congrArg some (by kernel_rfl))
  f338 := Tryz.func248.trans (congrArg some (by kernel_rfl))
  t0 := Tryz.underlying0
  a0 := Tryz.isAgg0
  z0 := Tryz.sizeOf0
  v0 := Tryz.zeroValue0
  t2 := Tryz.underlying2
  a2 := Tryz.isAgg2
  z2 := Tryz.sizeOf2
  v2 := Tryz.zeroValue2
  t3 := Tryz.underlying3
  a3 := Tryz.isAgg3
  z3 := Tryz.sizeOf3
  v3 := Tryz.zeroValue3
  t4 := Tryz.underlying4
  a4 := Tryz.isAgg4
  z4 := Tryz.sizeOf4
  v4 := Tryz.zeroValue4
  t5 := Tryz.underlying5
  a5 := Tryz.isAgg5
  z5 := Tryz.sizeOf5
  v5 := Tryz.zeroValue5
  t9 := Tryz.underlying9
  a9 := Tryz.isAgg9
  z9 := Tryz.sizeOf9
  v9 := Tryz.zeroValue9
  t20 := Tryz.underlying20
  a20 := Tryz.isAgg20
  z20 := Tryz.sizeOf20
  v20 := Tryz.zeroValue20
  t21 := Tryz.underlying21
  a21 := Tryz.isAgg21
  z21 := Tryz.sizeOf21
  v21 := Tryz.zeroValue21
  t37 := Tryz.underlying264
  a37 := Tryz.isAgg264
  z37 := Tryz.sizeOf264
  v37 := Tryz.zeroValue264
  t46 := Tryz.underlying208
  a46 := Tryz.isAgg208
  z46 := Tryz.sizeOf208
  v46 := Tryz.zeroValue208
  t51 := Tryz.underlying241
  a51 := Tryz.isAgg241
  z51 := Tryz.sizeOf241
  v51 := Tryz.zeroValue241
  t53 := Tryz.underlying282
  a53 := Tryz.isAgg282
  z53 := Tryz.sizeOf282
  v53 := Tryz.zeroValue282
  t75 := Tryz.underlying35
  a75 := Tryz.isAgg35
  z75 := Tryz.sizeOf35
  v75 := Tryz.zeroValue35
  t76 := Tryz.underlying243
  a76 := Tryz.isAgg243
  z76 := Tryz.sizeOf243
  v76 := Tryz.zeroValue243
  t85 := Tryz.underlying286
  a85 := Tryz.isAgg286
  z85 := Tryz.sizeOf286
  v85 := Tryz.zeroValue286
  t127 := Tryz.underlying319
  a127 := Tryz.isAgg319
  z127 := Tryz.sizeOf319
  v127 := Tryz.zeroValue319
  t143 := Tryz.underlying320
  a143 := Tryz.isAgg320
  z143 := Tryz.sizeOf320
  v143 := Tryz.zeroValue320
  t145 := Tryz.underlying322
  a145 := Tryz.isAgg322
  z145 := Tryz.sizeOf322
  v145 := Tryz.zeroValue322
  t167 := Tryz.underlying285
  a167 := Tryz.isAgg285
  z167 := Tryz.sizeOf285
  v167 := Tryz.zeroValue285
  t168 := Tryz.underlying288
  a168 := Tryz.isAgg288
  z168 := Tryz.sizeOf288
  v168 := Tryz.zeroValue288
  t171 := Tryz.underlying310
  a171 := Tryz.isAgg310
  z171 := Tryz.sizeOf310
  v171 := Tryz.zeroValue310
  t173 := Tryz.underlying312
  a173 := Tryz.isAgg312
  z173 := Tryz.sizeOf312
  v173 := Tryz.zeroValue312
  t175 := Tryz.underlying304
  a175 := Tryz.isAgg304
  z175 := Tryz.sizeOf304
  v175 := Tryz.zeroValue304
  t210 := Tryz.underlying308
  a210 := Tryz.isAgg308
  z210 := Tryz.sizeOf308
  v210 := Tryz.zeroValue308
  t212 := Tryz.underlying324
  a212 := Tryz.isAgg324
  z212 := Tryz.sizeOf324
  v212 := Tryz.zeroValue324
  t213 := Tryz.underlying325
  a213 := Tryz.isAgg325
  z213 := Tryz.sizeOf325
  t232 := Tryz.underlying326
  a232 := Tryz.isAgg326
  z232 := Tryz.sizeOf326
  v232 := Tryz.zeroValue326
  t233 := Tryz.underlying327
  a233 := Tryz.isAgg327
  z233 := Tryz.sizeOf327
  v233 := Tryz.zeroValue327
  g15 := by kernel_rfl
  g16 := by kernel_rfl
  g17 := by kernel_rfl
  g18 := by kernel_rfl
  g19 := by kernel_rfl
  t80 := Tryz.underlying328
  a80 := Tryz.isAgg328
  z80 := Tryz.sizeOf328
  v80 := Tryz.zeroValue328
  i0 := by kernel_rfl
  i2 := by kernel_rfl
  i3 := by kernel_rfl
  i4 := by kernel_rfl
  i5 := by kernel_rfl
  i9 := by kernel_rfl
  i20 := by kernel_rfl
  i21 := by kernel_rfl
  i37 := by kernel_rfl
  i46 := by kernel_rfl
  i51 := by kernel_rfl
  i53 := by kernel_rfl
  i75 := by kernel_rfl
  i76 := by kernel_rfl
  i80 := by kernel_rfl
  i85 := by kernel_rfl
  i127 := by kernel_rfl
  i143 := by kernel_rfl
  i145 := by kernel_rfl
  i167 := by kernel_rfl
  i168 := by kernel_rfl
  i171 := by kernel_rfl
  i173 := by kernel_rfl
  i175 := by kernel_rfl
  i210 := by kernel_rfl
  i212 := by kernel_rfl
  i232 := by kernel_rfl
  i233 := by kernel_rfl
  m15 := by kernel_rfl
  m16 := by kernel_rfl
  m17 := by kernel_rfl
  m18 := by kernel_rfl
  m19 := by kernel_rfl
  c0 := by kernel_rfl
  c2 := by kernel_rfl
  c3 := by kernel_rfl
  c4 := by kernel_rfl
  c5 := by kernel_rfl
  c9 := by kernel_rfl
  c20 := by kernel_rfl
  c21 := by kernel_rfl
  c37 := by kernel_rfl
  c46 := by kernel_rfl
  c51 := by kernel_rfl
  c53 := by kernel_rfl
  c75 := by kernel_rfl
  c76 := by kernel_rfl
  c80 := by kernel_rfl
  c85 := by kernel_rfl
  c127 := by kernel_rfl
  c143 := by kernel_rfl
  c145 := by kernel_rfl
  c167 := by kernel_rfl
  c168 := by kernel_rfl
  c171 := by kernel_rfl
  c173 := by kernel_rfl
  c175 := by kernel_rfl
  c210 := by kernel_rfl
  c212 := by kernel_rfl
  c213 := by kernel_rfl
  c232 := by kernel_rfl
  c233 := by kernel_rfl }
open Go.RowKit in
theorem Tryz.strconv_Atoi_ok (s : ByteArray) (hmax : s.size ≤ 9223372036854775806) (v : Int) (h : Lib.atoiAll s.data.toList = .ok v) (w : World) :
    Calls Tryz.prog 173 #[.string s] w fun e w' => e = .returned (.tuple #[.int .i64 v, .nilIface]) ∧ (w' = w ∨ ∃ t, w' = Lib.bytesWorld w 5 t) := Any.strconv_Atoi_ok Tryz.laysC172 s hmax v h w
open Go.RowKit in
theorem Tryz.strconv_Atoi_syntax (s : ByteArray) (hlim : s.size ≤ 281474976710656) (h : Lib.atoiAll s.data.toList = Lib.atoiAll []) (ev : Value) (w : World) (hv : w.cell? ⟨16, 0, none⟩ = some ev) (hev : ev = .nilIface ∨ ∃ te pe, ev = .iface te pe) :
    Calls Tryz.prog 173 #[.string s] w fun e w' => ∃ N, e = .returned (.tuple #[.int .i64 (0), .iface 288 (.pointer (some ⟨N, 0, none⟩))]) ∧ w.heap.size ≤ N ∧ w'.heap[N]? = some (.cells #[.string ⟨#[65, 116, 111, 105]⟩, .string s, ev] 308 (0, 0)) ∧ Below w.heap.size w w' := Any.strconv_Atoi_syntax Tryz.laysC172 s hlim h ev w hv hev
open Go.RowKit in
theorem Tryz.strconv_Atoi_range (s : ByteArray) (hlim : s.size ≤ 281474976710656) (h : Lib.atoiAll s.data.toList = .range) (ev : Value) (w : World) (hv : w.cell? ⟨17, 0, none⟩ = some ev) (hev : ev = .nilIface ∨ ∃ te pe, ev = .iface te pe) :
    Calls Tryz.prog 173 #[.string s] w fun e w' => ∃ N, e = .returned (.tuple #[.int .i64 (Lib.atoiSat s.data.toList), .iface 288 (.pointer (some ⟨N, 0, none⟩))]) ∧ w.heap.size ≤ N ∧ w'.heap[N]? = some (.cells #[.string ⟨#[65, 116, 111, 105]⟩, .string s, ev] 308 (0, 0)) ∧ Below w.heap.size w w' := Any.strconv_Atoi_range Tryz.laysC172 s hlim h ev w hv hev
def Tryz.lays145_ren : Go.Shelf.Ren := ⟨fun | 145 => 168 | 220 => 187 | 219 => 208 | 217 => 227 | 225 => 226 | 224 => 225 | 267 => 228 | 266 => 239 | 314 => 240 | n => n, fun | 9 => 9 | 4 => 4 | 59 => 238 | 3 => 3 | 5 => 5 | 46 => 208 | 146 => 316 | 51 => 241 | n => n, fun | 1 => 12 | n => n⟩
theorem Tryz.lays145 : Go.Proofs.Lays.n145 Tryz.prog Tryz.lays145_ren := {
  mixed := by kernel_rfl
  f145 := Tryz.func168.trans (congrArg some (by kernel_rfl))
  f217 := Tryz.func227.trans (congrArg some (by kernel_rfl))
  f219 := Tryz.func208.trans (congrArg some (by kernel_rfl))
  f220 := Tryz.func187.trans (congrArg some (by kernel_rfl))
  f224 := Tryz.func225.trans (congrArg some (by kernel_rfl))
  f225 := Tryz.func226.trans (congrArg some (by kernel_rfl))
  f266 := Tryz.func239.trans (congrArg some (by kernel_rfl))
  f267 := Tryz.func228.trans (congrArg some (by kernel_rfl))
  f314 := Tryz.func240.trans (congrArg some (by kernel_rfl))
  t3 := Tryz.underlying3
  a3 := Tryz.isAgg3
  z3 := Tryz.sizeOf3
  v3 := Tryz.zeroValue3
  t4 := Tryz.underlying4
  a4 := Tryz.isAgg4
  z4 := Tryz.sizeOf4
  v4 := Tryz.zeroValue4
  t5 := Tryz.underlying5
  a5 := Tryz.isAgg5
  z5 := Tryz.sizeOf5
  v5 := Tryz.zeroValue5
  t9 := Tryz.underlying9
  a9 := Tryz.isAgg9
  z9 := Tryz.sizeOf9
  v9 := Tryz.zeroValue9
  t46 := Tryz.underlying208
  a46 := Tryz.isAgg208
  z46 := Tryz.sizeOf208
  v46 := Tryz.zeroValue208
  t51 := Tryz.underlying241
  a51 := Tryz.isAgg241
  z51 := Tryz.sizeOf241
  v51 := Tryz.zeroValue241
  t59 := Tryz.underlying238
  a59 := Tryz.isAgg238
  z59 := Tryz.sizeOf238
  v59 := Tryz.zeroValue238
  t146 := Tryz.underlying316
  a146 := Tryz.isAgg316
  z146 := Tryz.sizeOf316
  v146 := Tryz.zeroValue316
  g1 := by kernel_rfl }
open Go.RowKit Go.Lib in
theorem Tryz.strings_Cut (s sep : ByteArray) (m : Int) (w : World) (hs : s.size < 4294967281) (hm : w.cell? ⟨12, 0, none⟩ = some (.int .i64 m)) :
    Calls Tryz.prog 168 #[.string s, .string sep] w fun e w' => e = .returned (.tuple #[.string ⟨(Lib.cut s.data.toList sep.data.toList).1.toArray⟩, .string ⟨(Lib.cut s.data.toList sep.data.toList).2.1.toArray⟩, .bool (Lib.cut s.data.toList sep.data.toList).2.2]) ∧ ∃ n, w' = w.drewN n := Any.strings_Cut Tryz.lays145 s sep m w hs hm
def Tryz.lays146_ren : Go.Shelf.Ren := ⟨fun | 146 => 170 | 221 => 189 | 268 => 209 | 138 => 210 | 143 => 211 | 195 => 229 | 197 => 184 | 218 => 230 | 219 => 208 | 260 => 205 | 217 => 227 | 225 => 226 | 224 => 225 | 267 => 228 | 266 => 239 | 314 => 240 | n => n, fun | 9 => 9 | 31 => 39 | 3 => 3 | 4 => 4 | 0 => 0 | 105 => 266 | 21 => 21 | 5 => 5 | 46 => 208 | 119 => 298 | 139 => 301 | 138 => 300 | 146 => 316 | 51 => 241 | n => n, fun | 1 => 12 | 3 => 14 | 4 => 15 | n => n⟩
theorem Tryz.lays146 : Go.Proofs.Lays.n146 Tryz.prog Tryz.lays146_ren := {
  mixed := by kernel_rfl
  f138 := Tryz.func210.trans (congrArg some (by kernel_rfl))
  f143 := Tryz.func211.trans (congrArg some (by kernel_rfl))
  f146 := Tryz.func170.trans (congrArg some (by kernel_rfl))
  f195 := Tryz.func229.trans (congrArg some (by kernel_rfl))
  f197 := Tryz.func184.trans (congrArg some (by kernel_rfl))
  f217 := Tryz.func227.trans (congrArg some (by kernel_rfl))
  f218 := Tryz.func230.trans (congrArg some (by kernel_rfl))
  f219 := Tryz.func208.trans (congrArg some (by kernel_rfl))
  f221 := Tryz.func189.trans (congrArg some (by kernel_rfl))
  f224 := Tryz.func225.trans (congrArg some (by kernel_rfl))
  f225 := Tryz.func226.trans (congrArg some (by kernel_rfl))
  f260 := Tryz.func205.trans (congrArg some (by kernel_rfl))
  f266 := Tryz.func239.trans (congrArg some (by kernel_rfl))
  f267 := Tryz.func228.trans (congrArg some (by kernel_rfl))
  f268 := Tryz.func209.trans (congrArg some (by kernel_rfl))
  f314 := Tryz.func240.trans (congrArg some (by kernel_rfl))
  t0 := Tryz.underlying0
  a0 := Tryz.isAgg0
  z0 := Tryz.sizeOf0
  v0 := Tryz.zeroValue0
  t3 := Tryz.underlying3
  a3 := Tryz.isAgg3
  z3 := Tryz.sizeOf3
  v3 := Tryz.zeroValue3
  t4 := Tryz.underlying4
  a4 := Tryz.isAgg4
  z4 := Tryz.sizeOf4
  v4 := Tryz.zeroValue4
  t5 := Tryz.underlying5
  a5 := Tryz.isAgg5
  z5 := Tryz.sizeOf5
  v5 := Tryz.zeroValue5
  t9 := Tryz.underlying9
  a9 := Tryz.isAgg9
  z9 := Tryz.sizeOf9
  v9 := Tryz.zeroValue9
  t21 := Tryz.underlying21
  a21 := Tryz.isAgg21
  z21 := Tryz.sizeOf21
  v21 := Tryz.zeroValue21
  t31 := Tryz.underlying39
  a31 := Tryz.isAgg39
  z31 := Tryz.sizeOf39
  v31 := Tryz.zeroValue39
  t46 := Tryz.underlying208
  a46 := Tryz.isAgg208
  z46 := Tryz.sizeOf208
  v46 := Tryz.zeroValue208
  t51 := Tryz.underlying241
  a51 := Tryz.isAgg241
  z51 := Tryz.sizeOf241
  v51 := Tryz.zeroValue241
  t105 := Tryz.underlying266
  a105 := Tryz.isAgg266
  z105 := Tryz.sizeOf266
  v105 := Tryz.zeroValue266
  t119 := Tryz.underlying298
  a119 := Tryz.isAgg298
  z119 := Tryz.sizeOf298
  t138 := Tryz.underlying300
  a138 := Tryz.isAgg300
  z138 := Tryz.sizeOf300
  v138 := Tryz.zeroValue300
  t139 := Tryz.underlying301
  a139 := Tryz.isAgg301
  z139 := Tryz.sizeOf301
  v139 := Tryz.zeroValue301
  t146 := Tryz.underlying316
  a146 := Tryz.isAgg316
  z146 := Tryz.sizeOf316
  v146 := Tryz.zeroValue316
  g1 := by kernel_rfl
  g3 := by kernel_rfl
  g4 := by kernel_rfl }
open Go.RowKit Go.Lib in
theorem Tryz.strings_Split (s sep : ByteArray) (m : Int) (w : World) (hs : s.size < 4294967281) (hm : w.cell? ⟨12, 0, none⟩ = some (.int .i64 m)) (h1 : 1 ≤ sep.size) :
    Calls Tryz.prog 170 #[.string s, .string sep] w fun e w' =>
      e = .returned (.slice (some ⟨w.heap.size, 0, none⟩) (Lib.countB s sep + 1) (Lib.countB s sep + 1)) ∧ w' = w.alloc (.cells ((Lib.splitB sep 0 (Lib.countB s sep) s).map Value.string).toArray 9) := Any.strings_Split Tryz.lays146 (by kernel_rfl) s sep m w hs hm h1
def Tryz.lays110_ren : Go.Shelf.Ren := ⟨fun | 110 => 59 | 109 => 108 | n => n, fun | 31 => 39 | 9 => 9 | 4 => 4 | 3 => 3 | 0 => 0 | n => n, fun | n => n⟩
theorem Tryz.lays110 : Go.Proofs.Lays.n110 Tryz.prog Tryz.lays110_ren := {
  mixed := by kernel_rfl
  f109 := Tryz.func108.trans (congrArg some (by kernel_rfl))
  f110 := Tryz.func59.trans (congrArg some (by kernel_rfl))
  t0 := Tryz.underlying0
  a0 := Tryz.isAgg0
  z0 := Tryz.sizeOf0
  v0 := Tryz.zeroValue0
  t3 := Tryz.underlying3
  a3 := Tryz.isAgg3
  z3 := Tryz.sizeOf3
  v3 := Tryz.zeroValue3
  t4 := Tryz.underlying4
  a4 := Tryz.isAgg4
  z4 := Tryz.sizeOf4
  v4 := Tryz.zeroValue4
  t9 := Tryz.underlying9
  a9 := Tryz.isAgg9
  z9 := Tryz.sizeOf9
  v9 := Tryz.zeroValue9
  t31 := Tryz.underlying39
  a31 := Tryz.isAgg39
  z31 := Tryz.sizeOf39
  v31 := Tryz.zeroValue39 }
open Go.Lib in
theorem Tryz.slices_Contains_string (b off n c : Nat) (zs : List ByteArray) (x : ByteArray) (w : World) (hz : n ≤ zs.length) (hbig : n ≤ 9223372036854775807) (hc : ∀ j, j < zs.length → w.cell? ⟨b, off + j, none⟩ = some (.string (zs.getD j ByteArray.empty))) :
    Calls Tryz.prog 59 #[.slice (some ⟨b, off, none⟩) n c, .string x] w fun e w' => e = .returned (.bool (Lib.containsS (zs.take n) x)) ∧ w' = w := Any.slices_Contains_string Tryz.lays110 b off n c zs x w hz hbig hc
open Go.Lib in
theorem Tryz.slices_Contains_string_empty (a : Option Addr) (c : Nat) (x : ByteArray) (w : World) :
    Calls Tryz.prog 59 #[.slice a 0 c, .string x] w fun e w' => e = .returned (.bool false) ∧ w' = w := Any.slices_Contains_string_empty Tryz.lays110 a c x w
def Tryz.lays113_ren : Go.Shelf.Ren := ⟨fun | 113 => 134 | n => n, fun | 28 => 69 | 3 => 3 | 4 => 4 | 9 => 9 | 20 => 20 | 0 => 0 | n => n, fun | n => n⟩
theorem Tryz.lays113 : Go.Proofs.Lays.n113 Tryz.prog Tryz.lays113_ren := {
  mixed := by kernel_rfl
  f113 := Tryz.func134.trans (congrArg some (by kernel_rfl))
  t0 := Tryz.underlying0
  a0 := Tryz.isAgg0
  z0 := Tryz.sizeOf0
  v0 := Tryz.zeroValue0
  t3 := Tryz.underlying3
  a3 := Tryz.isAgg3
  z3 := Tryz.sizeOf3
  v3 := Tryz.zeroValue3
  t4 := Tryz.underlying4
  a4 := Tryz.isAgg4
  z4 := Tryz.sizeOf4
  v4 := Tryz.zeroValue4
  t9 := Tryz.underlying9
  a9 := Tryz.isAgg9
  z9 := Tryz.sizeOf9
  v9 := Tryz.zeroValue9
  t20 := Tryz.underlying20
  a20 := Tryz.isAgg20
  z20 := Tryz.sizeOf20
  v20 := Tryz.zeroValue20
  t28 := Tryz.underlying69
  a28 := Tryz.isAgg69
  z28 := Tryz.sizeOf69
  v28 := Tryz.zeroValue69 }
open Go.Lib in
theorem Tryz.slices_Max_int (b off n c : Nat) (zs : List Int) (w : World) (hn : 0 < n) (hz : n ≤ zs.length) (hbig : n ≤ 9223372036854775807) (hc : ∀ j, j < zs.length → w.cell? ⟨b, off + j, none⟩ = some (.int .i64 (zs.getD j 0))) :
    Calls Tryz.prog 134 #[.slice (some ⟨b, off, none⟩) n c] w fun e w' => e = .returned (.int .i64 (Lib.maxOf (zs.take n))) ∧ w' = w := Any.slices_Max_int Tryz.lays113 b off n c zs w hn hz hbig hc
def Tryz.lays114_ren : Go.Shelf.Ren := ⟨fun | 114 => 133 | n => n, fun | 28 => 69 | 3 => 3 | 4 => 4 | 9 => 9 | 20 => 20 | 0 => 0 | n => n, fun | n => n⟩
theorem Tryz.lays114 : Go.Proofs.Lays.n114 Tryz.prog Tryz.lays114_ren := {
  mixed := by kernel_rfl
  f114 := Tryz.func133.trans (congrArg some (by kernel_rfl))
  t0 := Tryz.underlying0
  a0 := Tryz.isAgg0
  z0 := Tryz.sizeOf0
  v0 := Tryz.zeroValue0
  t3 := Tryz.underlying3
  a3 := Tryz.isAgg3
  z3 := Tryz.sizeOf3
  v3 := Tryz.zeroValue3
  t4 := Tryz.underlying4
  a4 := Tryz.isAgg4
  z4 := Tryz.sizeOf4
  v4 := Tryz.zeroValue4
  t9 := Tryz.underlying9
  a9 := Tryz.isAgg9
  z9 := Tryz.sizeOf9
  v9 := Tryz.zeroValue9
  t20 := Tryz.underlying20
  a20 := Tryz.isAgg20
  z20 := Tryz.sizeOf20
  v20 := Tryz.zeroValue20
  t28 := Tryz.underlying69
  a28 := Tryz.isAgg69
  z28 := Tryz.sizeOf69
  v28 := Tryz.zeroValue69 }
open Go.Lib in
theorem Tryz.slices_Min_int (b off n c : Nat) (zs : List Int) (w : World) (hn : 0 < n) (hz : n ≤ zs.length) (hbig : n ≤ 9223372036854775807) (hc : ∀ j, j < zs.length → w.cell? ⟨b, off + j, none⟩ = some (.int .i64 (zs.getD j 0))) :
    Calls Tryz.prog 133 #[.slice (some ⟨b, off, none⟩) n c] w fun e w' => e = .returned (.int .i64 (Lib.minOf (zs.take n))) ∧ w' = w := Any.slices_Min_int Tryz.lays114 b off n c zs w hn hz hbig hc
def Tryz.laysNm225_ren : Go.Shelf.Ren := ⟨fun | 25 => 104 | 31 => 144 | 32 => 145 | 37 => 176 | n => n, fun | 22 => 69 | 3 => 3 | 4 => 4 | 40 => 208 | 0 => 0 | n => n, fun | n => n⟩
theorem Tryz.laysNm225 : Go.Proofs.Lays2.n25 Tryz.prog Tryz.laysNm225_ren := {
  mixed := by kernel_rfl
  f25 := Tryz.func104.trans (congrArg some (by kernel_rfl))
  f31 := Tryz.func144.trans (congrArg some (by kernel_rfl))
  f32 := Tryz.func145.trans (congrArg some (by kernel_rfl))
  f37 := Tryz.func176.trans (congrArg some (by kernel_rfl))
  t0 := Tryz.underlying0
  a0 := Tryz.isAgg0
  z0 := Tryz.sizeOf0
  v0 := Tryz.zeroValue0
  t3 := Tryz.underlying3
  a3 := Tryz.isAgg3
  z3 := Tryz.sizeOf3
  v3 := Tryz.zeroValue3
  t4 := Tryz.underlying4
  a4 := Tryz.isAgg4
  z4 := Tryz.sizeOf4
  v4 := Tryz.zeroValue4
  t22 := Tryz.underlying69
  a22 := Tryz.isAgg69
  z22 := Tryz.sizeOf69
  v22 := Tryz.zeroValue69
  t40 := Tryz.underlying208
  a40 := Tryz.isAgg208
  z40 := Tryz.sizeOf208
  v40 := Tryz.zeroValue208 }
open Go.RowKit Go.Lib in
theorem Tryz.slices_BinarySearch_int (b off n c : Nat) (zs : List Int) (x : Int) (w : World) (hz : n ≤ zs.length) (hbig : n < 4611686018427387904) (hc : ∀ j, j < zs.length → w.cell? ⟨b, off + j, none⟩ = some (.int .i64 (zs.getD j 0))) (hs : (zs.take n).Pairwise (· ≤ ·)) :
    Calls Tryz.prog 104 #[.slice (some ⟨b, off, none⟩) n c, .int .i64 x] w fun e w' => e = .returned (.tuple #[.int .i64 ((zs.take n).countP (· < x) : Nat), .bool ((zs.take n).contains x)]) ∧ ∃ q, w' = w.drewN q := Any.slices_BinarySearch_int Tryz.laysNm225 b off n c zs x w hz hbig hc hs
open Go.RowKit Go.Lib in
theorem Tryz.slices_BinarySearch_int_empty (a : Option Addr) (c : Nat) (x : Int) (w : World) :
    Calls Tryz.prog 104 #[.slice a 0 c, .int .i64 x] w fun e w' => e = .returned (.tuple #[.int .i64 0, .bool false]) ∧ w' = w := Any.slices_BinarySearch_int_empty Tryz.laysNm225 a c x w
end Go.Proofs
namespace Go.Proofs.YtpfohfihkmjnaaaGreatDoor
open Go.RowKit
/-- What strconv reads of the library's variables. -/
structure LNum (B : Nat) (w : World) : Prop where
  tab : Lib.TabIs Tryz.prog w "internal/strconv.uint64pow10" .u64 Lib.pow10Tab
  syn : ∃ te pe, w.cell? ⟨16, 0, none⟩ = some (.iface te pe)
  rng : ∃ te pe, w.cell? ⟨17, 0, none⟩ = some (.iface te pe)
  low : 21 ≤ B
  le : B ≤ w.heap.size
theorem pow10G : Tryz.prog.globalNamed "internal/strconv.uint64pow10" = some 18 := by kernel_rfl
theorem LNum.below {B : Nat} {w w' : World} (h : LNum B w) (hb : Below B w w') : LNum B w' := by
  have hl := h.low
  have hB := h.le
  obtain ⟨te, pe, hs⟩ := h.syn
  obtain ⟨tr, pr, hr⟩ := h.rng
  refine ⟨?_, ⟨te, pe, (hb.cell (p := ⟨16, 0, none⟩) (by simp; omega)).trans hs⟩, ⟨tr, pr, (hb.cell (p := ⟨17, 0, none⟩) (by simp; omega)).trans hr⟩, hl, Nat.le_trans hB hb.size⟩
  have ht := h.tab
  unfold Lib.TabIs World.var? at ht ⊢
  rw [pow10G] at ht ⊢
  simp only [Option.bind_some] at ht ⊢
  rw [hb.block 18 (by omega)]
  exact ht
theorem LNum.below' {B B' : Nat} {w w' : World} (h : LNum B w) (hb : Below B' w w') (hB : B ≤ B') : LNum B w' := h.below (hb.mono hB)
theorem Bgrow (w : World) (k : Nat) (os : Array Obj) : Below w.heap.size w (Go.Sort.grow (w.drewN k) os) := by
  refine ⟨rfl, rfl, rfl, ?_, fun i hi => ?_⟩
  · show w.heap.size ≤ (w.heap ++ os).size
    simp
  · show (w.heap ++ os)[i]? = _
    rw [Array.getElem?_append_left hi]
theorem itoa_any (B : Nat) (n : Int) (h0 : -9223372036854775808 ≤ n) (h1 : n ≤ 9223372036854775807) (w : World) (hT : LNum B w) :
    Calls Tryz.prog 174 #[.int .i64 n] w fun e w' => e = .returned (S (Lib.itoa n)) ∧ Below w.heap.size w w' :=
  (Tryz.strconv_Itoa n h0 h1 w hT.tab).mono fun e w' ⟨he, k, os, hw⟩ => ⟨he, by rw [hw]; exact Bgrow w k os⟩
/-- The number that a text is: digits without needless zeros, a sign ahead below 0, at most eleven signs. -/
def numOf (s : Str) : Option Int :=
  match Lib.atoiAll s with
  | .ok n => if s.length ≤ 11 ∧ Lib.itoa n = s then some n else none
  | _ => none
/-- What strconv.Atoi answers beside its error. -/
def atoiN (s : Str) : Int :=
  match Lib.atoiAll s with
  | .ok n => n
  | .range => Lib.atoiSat s
  | _ => 0
theorem numOf_atoiN {s : Str} {n : Int} (h : numOf s = some n) : atoiN s = n := by
  unfold numOf at h; unfold atoiN
  split at h
  · rename_i m hm
    split at h
    · rw [hm]; exact Option.some.inj h
    · cases h
  · cases h
theorem Bbytes (w : World) (t : TypeId) (s : ByteArray) : Below w.heap.size w (Lib.bytesWorld w t s) := by
  have h1 : Below w.heap.size w (w.drew.alloc (.cells (Lib.bytesCells w t s) t)) := (Below.refl w.heap.size w).drew.alloc (Nat.le_refl _) _
  unfold Lib.bytesWorld World.freeze
  rw [if_neg (by decide)]
  refine ⟨h1.os, h1.tape, h1.output, ?_, fun k hk => ?_⟩
  · show w.heap.size ≤ (Array.modify _ _ _).size
    rw [Array.size_modify]; exact h1.size
  · show (Array.modify _ _ _)[k]? = _
    rw [Array.getElem?_modify, if_neg (by simp; omega)]
    exact h1.block k hk
theorem number_any (B : Nat) (s : Str) (w : World) (hT : LNum B w) (hs : s.length ≤ 100000) :
    Calls Tryz.prog 138 #[S s] w fun e w' => e = .returned (.tuple #[.int .i64 (atoiN s), .bool (numOf s).isSome]) ∧ Below w.heap.size w w' := by
  have hif := isIfaceE
  cases ha : Lib.atoiAll s with
  | ok n =>
    have hb := Lib.atoiAll_bounds ha
    have e1 : atoiN s = n := by unfold atoiN; rw [ha]
    have hA := Tryz.strconv_Atoi_ok ⟨s.toArray⟩ (by show s.toArray.size ≤ _; simp; omega) n (by simpa using ha)
    by_cases hl : s.length ≤ 11
    · have hl' : (s.length : Int) ≤ 11 := by omega
      have hN : (numOf s).isSome = (Lib.itoa n == s) := by
        unfold numOf; rw [ha]
        by_cases h : Lib.itoa n = s
        · simp [hl, h]
        · simp [h]
      have H1 := Lib.hid e1; have H2 := Lib.hid hN; have HA := Lib.hid hA; clear e1 hN hA ha
      go_enter Tryz.func138, Tryz.ntmps138
      go_wp2_with fail
      refine (HA.out _).mono ?_
      rintro e w1 ⟨rfl, hw⟩
      have hb1 : Below w.heap.size w w1 := by
        rcases hw with rfl | ⟨t, rfl⟩
        · exact Below.refl _ _
        · exact Bbytes _ _ _
      clear hw
      go_wp2_with fail
      refine (itoa_any B n hb.1 hb.2 _ (hT.below' hb1 hT.le)).mono ?_
      rintro e w2 ⟨rfl, hb2⟩
      go_wp2_with fail
      go_ret2
      exact ⟨by rw [H1.out, H2.out]; rfl, hb1.trans (hb2.mono hb1.size)⟩
    · have hl' : decide ((s.length : Int) ≤ 11) = false := by simp; omega
      have hN : (numOf s).isSome = false := by
        unfold numOf; rw [ha]; simp [hl]
      have H1 := Lib.hid e1; have H2 := Lib.hid hN; have HA := Lib.hid hA; clear e1 hN hA ha
      go_enter Tryz.func138, Tryz.ntmps138
      go_wp2_with fail
      refine (HA.out _).mono ?_
      rintro e w1 ⟨rfl, hw⟩
      have hb1 : Below w.heap.size w w1 := by
        rcases hw with rfl | ⟨t, rfl⟩
        · exact Below.refl _ _
        · exact Bbytes _ _ _
      clear hw
      go_wp2_with fail
      go_ret2
      exact ⟨by rw [H1.out, H2.out]; rfl, hb1⟩
  | range =>
    have e1 : atoiN s = Lib.atoiSat s := by unfold atoiN; rw [ha]
    have hN : (numOf s).isSome = false := by unfold numOf; rw [ha]; rfl
    obtain ⟨te, pe, hsy⟩ := hT.rng
    have hA := Tryz.strconv_Atoi_range ⟨s.toArray⟩ (by show s.toArray.size ≤ _; simp; omega) (by simpa using ha) _ w hsy (.inr ⟨te, pe, rfl⟩)
    have H1 := Lib.hid e1; have H2 := Lib.hid hN; have HA := Lib.hid hA; clear e1 hN hA ha hsy
    go_enter Tryz.func138, Tryz.ntmps138
    go_wp2_with fail
    refine HA.out.mono ?_
    rintro e w1 ⟨N, rfl, _, _, hb1⟩
    go_wp2_with fail
    go_ret2
    exact ⟨by rw [H1.out, H2.out]; rfl, hb1⟩
  | _ =>
    have hb : Lib.atoiAll s = Lib.atoiAll [] := ha
    have e1 : atoiN s = 0 := by unfold atoiN; rw [ha]
    have hN : (numOf s).isSome = false := by unfold numOf; rw [ha]; rfl
    obtain ⟨te, pe, hsy⟩ := hT.syn
    have hA := Tryz.strconv_Atoi_syntax ⟨s.toArray⟩ (by show s.toArray.size ≤ _; simp; omega) (by simpa using hb) _ w hsy (.inr ⟨te, pe, rfl⟩)
    have H1 := Lib.hid e1; have H2 := Lib.hid hN; have HA := Lib.hid hA; clear e1 hN hA ha hsy
    go_enter Tryz.func138, Tryz.ntmps138
    go_wp2_with fail
    refine HA.out.mono ?_
    rintro e w1 ⟨N, rfl, _, _, hb1⟩
    go_wp2_with fail
    go_ret2
    exact ⟨by rw [H1.out, H2.out]; rfl, hb1⟩
end Go.Proofs.YtpfohfihkmjnaaaGreatDoor
namespace Go.Proofs.YtpfohfihkmjnaaaGreatDoor
/-! ### Numerals -/
theorem nDigits_le : ∀ (k u : Nat), u < 10 ^ (k + 1) → Lib.nDigits u ≤ k + 1
  | 0, u, h => by rw [Lib.nDigits_small (by simpa using h)]; omega
  | k + 1, u, h => by
    by_cases h' : u < 10
    · rw [Lib.nDigits_small h']; omega
    · rw [Lib.nDigits_big h']
      rw [Nat.pow_succ] at h
      have := nDigits_le k (u / 10) (by omega)
      omega
theorem digit_val {d : Nat} (h : d < 10) : (UInt8.ofNat (48 + d)).toNat = 48 + d := by
  rw [UInt8.toNat_ofNat']; omega
theorem digitVal_of {d : Nat} (h : d < 10) : Lib.digitVal (UInt8.ofNat (48 + d)) = some d := by
  unfold Lib.digitVal
  rw [digit_val h, if_pos (by omega)]
  congr 1; omega
theorem decFrom_app : ∀ (a b : Str) (acc : Nat), Lib.decFrom acc (a ++ b) = (Lib.decFrom acc a).bind fun m => Lib.decFrom m b
  | [], b, acc => rfl
  | c :: r, b, acc => by
    simp only [List.cons_append, Lib.decFrom]
    cases Lib.digitVal c with
    | none => rfl
    | some d => exact decFrom_app r b _
theorem decFrom_dec (u : Nat) : Lib.decFrom 0 (Lib.decDigits u) = some u := by
  induction u using Nat.strongRecOn with
  | _ u ih =>
    by_cases h : u < 10
    · rw [Lib.decDigits, dif_pos h]
      simp only [Lib.decFrom, digitVal_of h]
      simp
    · rw [Lib.decDigits, dif_neg h, decFrom_app, ih (u / 10) (by omega)]
      simp only [Option.bind_some, Lib.decFrom, digitVal_of (Nat.mod_lt u (by decide : 0 < 10))]
      congr 1; omega
theorem dec_digit (u : Nat) : ∀ c ∈ Lib.decDigits u, 48 ≤ c.toNat ∧ c.toNat ≤ 57 := by
  induction u using Nat.strongRecOn with
  | _ u ih =>
    intro c hc
    by_cases h : u < 10
    · rw [Lib.decDigits, dif_pos h] at hc
      obtain rfl := List.mem_singleton.1 hc
      rw [digit_val h]; omega
    · rw [Lib.decDigits, dif_neg h] at hc
      rcases List.mem_append.1 hc with hc | hc
      · exact ih (u / 10) (by omega) c hc
      · obtain rfl := List.mem_singleton.1 hc
        rw [digit_val (Nat.mod_lt u (by decide : 0 < 10))]; omega
theorem dec_ne (u : Nat) : Lib.decDigits u ≠ [] := fun e => by
  have h1 := Lib.decDigits_length u
  have h2 := Lib.nDigits_pos u
  rw [e] at h1; simp at h1; omega
theorem decNat_dec (u : Nat) : Lib.decNat (Lib.decDigits u) = some u := by
  unfold Lib.decNat
  rw [if_neg (by simpa using dec_ne u)]; exact decFrom_dec u
theorem atoi_dec (u : Nat) : Lib.atoi (Lib.decDigits u) = some (u : Int) := by
  have h := decNat_dec u
  have hd := dec_digit u
  cases he : Lib.decDigits u with
  | nil => exact absurd he (dec_ne u)
  | cons b r =>
    rw [he] at h hd
    have hb := hd b (by simp)
    have h45 : b ≠ 45 := fun e => by rw [e] at hb; revert hb; decide
    have h43 : b ≠ 43 := fun e => by rw [e] at hb; revert hb; decide
    unfold Lib.atoi
    simp only [beq_iff_eq, h45, h43, if_false, h, Option.map_some]
theorem numOf_itoa {n : Int} (h0 : 0 ≤ n) (h1 : n < 10000000000) : numOf (Lib.itoa n) = some n := by
  obtain ⟨u, rfl⟩ : ∃ u : Nat, n = u := ⟨n.toNat, by omega⟩
  have hl : (Lib.itoa (u : Int)).length ≤ 10 := by
    rw [Lib.itoa_nonneg, Lib.decDigits_length]; exact nDigits_le 9 u (by omega)
  unfold numOf
  rw [Lib.atoiAll_short _ (by omega), Lib.itoa_nonneg, atoi_dec]
  simp only [Lib.NumEnd.ofOption]
  rw [if_pos ⟨by rw [← Lib.itoa_nonneg]; omega, Lib.itoa_nonneg u⟩]
theorem itoa_digit {n : Int} (h0 : 0 ≤ n) : ∀ c ∈ Lib.itoa n, 48 ≤ c.toNat ∧ c.toNat ≤ 57 := by
  obtain ⟨u, rfl⟩ : ∃ u : Nat, n = u := ⟨n.toNat, by omega⟩
  rw [Lib.itoa_nonneg]; exact dec_digit u
/-- A text that is a number is that number's numeral. -/
theorem numOf_text {s : Str} {n : Int} (h : numOf s = some n) : Lib.itoa n = s := by
  unfold numOf at h
  split at h
  · split at h
    · rename_i hc
      rw [← Option.some.inj h]; exact hc.2
    · cases h
  · cases h
theorem numOf_len {s : Str} {n : Int} (h : numOf s = some n) : s.length ≤ 11 := by
  unfold numOf at h
  split at h
  · split at h
    · rename_i hc; exact hc.1
    · cases h
  · cases h
end Go.Proofs.YtpfohfihkmjnaaaGreatDoor
namespace Go.Proofs.YtpfohfihkmjnaaaGreatDoor
open Go.RowKit
def numsOf (l : List Str) : Option (List Int) := l.mapM numOf
theorem mapM_snoc {α β : Type} (f : α → Option β) (l : List α) (x : α) : (l ++ [x]).mapM f = (l.mapM f).bind fun ys => (f x).map fun y => ys ++ [y] := by
  induction l with
  | nil => cases h : f x <;> simp [h]
  | cons a r ih =>
    cases h : f a with
    | none => simp [h]
    | some b =>
      simp only [List.cons_append, List.mapM_cons, h, Option.bind_eq_bind, Option.bind_some, ih]
      cases h2 : r.mapM f with
      | none => simp
      | some ys => cases f x <;> simp
theorem mapM_take_none {α β : Type} (f : α → Option β) (l : List α) (k : Nat) (h : (l.take k).mapM f = none) : l.mapM f = none := by
  have e : l = l.take k ++ l.drop k := (List.take_append_drop k l).symm
  rw [e, List.mapM_append, h]; rfl
theorem mapM_len {α β : Type} (f : α → Option β) : ∀ {l : List α} {ys : List β}, l.mapM f = some ys → ys.length = l.length
  | [], ys, h => by simp at h; subst h; rfl
  | a :: r, ys, h => by
    rw [List.mapM_cons] at h
    cases h1 : f a with
    | none => simp [h1] at h
    | some b =>
      cases h2 : r.mapM f with
      | none => simp [h1, h2] at h
      | some zs =>
        simp [h1, h2] at h
        subst h
        simp [mapM_len f h2]
theorem take_snoc' {α : Type} {l : List α} {k : Nat} {x : α} (h : l[k]? = some x) : l.take (k + 1) = l.take k ++ [x] := by
  rw [List.take_add_one, h]; rfl
theorem numbers_any (B : Nat) (v : Value) (l : List Str) (w : World) (hT : LNum B w) (hl : StrsAt w v l) (hn : l.length ≤ 100000) (hs : ∀ s ∈ l, s.length ≤ 100000) :
    Calls Tryz.prog 171 #[v] w fun e w' => ∃ v', e = .returned (.tuple #[v', .bool (numsOf l).isSome]) ∧ (∀ ns, numsOf l = some ns → Own encI 3 1 w.heap.size w' v' ns) ∧ (numsOf l = none → v' = .slice none 0 0) ∧ Below w.heap.size w w' := by
  obtain ⟨a, c, b, o, rfl, ha, hc, hcm, hx⟩ := hl
  unfold maxLen at hcm
  go_enter Tryz.func171, Tryz.ntmps171
  go_wp2_with fail
  go_loopw [2, 3, 4, 11] (fun r1 r2 out i wr => r1 = .slice none 0 0 ∧ r2 = .bool false ∧ ∃ (k : Nat) (ns : List Int), k ≤ l.length ∧ i = .int .i64 k ∧ Hid ((l.take k).mapM numOf = some ns) ∧ Own encI 3 1 w.heap.size wr out ns ∧ Below w.heap.size w wr) (fun _ _ _ i _ => l.length - (intOf i).toNat)
  case atStart => exact ⟨rfl, rfl, 0, [], by omega, rfl, rfl, Own.nil _ _ _ _ _, Below.refl _ _⟩
  case round =>
    obtain ⟨rfl, rfl, k, ns, hk, rfl, hm, ho, hb⟩ := hrel
    by_cases hlt : k < l.length
    · obtain ⟨x, hxk⟩ := get_ex hlt
      have c1 := hx k x hxk 0 _ rfl
      have c1 := (hb.cell (World.block_lt_of_cell? w _ c1)).trans c1
      have i1 := idx_at (c := c) 1 Tryz.underlying39 szStr ha k hlt
      have hk1 : (k : Int) < (l.length : Int) := by omega
      simp only [Nat.mul_one, Nat.add_zero] at c1 i1
      have hxs : x.length ≤ 100000 := hs x (List.mem_of_getElem? hxk)
      have hsn := take_snoc' hxk
      have hlen : ns.length = k := by have := mapM_len _ hm.out; simp at this; omega
      have Hx := Lib.hid hsn; clear hsn hxk
      have Hlen := Lib.hid hlen; clear hlen
      cases hx0 : numOf x with
      | none =>
        have hN : numsOf l = none := by
          refine mapM_take_none _ _ (k + 1) ?_
          rw [Hx.out, mapM_snoc, hm.out]; simp [hx0]
        have h2 : (numOf x).isSome = false := by rw [hx0]; rfl
        have HN := Lib.hid hN; clear hN
        have H0 := Lib.hid hx0; clear hx0
        go_wp2_with fail
        refine (number_any B x _ (hT.below' hb hT.le) hxs).mono ?_
        rintro e w1 ⟨rfl, hb1⟩
        go_wp2_with fail
        go_ret2
        exact ⟨_, by rw [HN.out]; rfl, (fun ns h => by rw [HN.out] at h; cases h), (fun _ => rfl), hb.trans (hb1.mono hb.size)⟩
      | some n =>
        have h2 : (numOf x).isSome = true := by rw [hx0]; rfl
        have h3 : atoiN x = n := numOf_atoiN hx0
        have hm2 : (l.take (k + 1)).mapM numOf = some (ns ++ [n]) := by rw [Hx.out, mapM_snoc, hm.out]; simp [hx0]
        have HM := Lib.hid hm2; clear hm2
        have H0 := Lib.hid hx0; clear hx0
        have H3 := Lib.hid h3; clear h3
        go_wp2_with fail
        refine (number_any B x _ (hT.below' hb hT.le) hxs).mono ?_
        rintro e w1 ⟨rfl, hb1⟩
        rw [H3.out]
        have ho1 : Own encI 3 1 w.heap.size w1 _ ns := ho.below hb1
        have hb2 := hb.trans (hb1.mono hb.size)
        go_wp2_with (at_builtin; refine wpList_app rfl _ _ _ rfl w.heap.size elInt _ ns.length _ rfl (ho1.alloc _) (.slice (some ⟨w1.heap.size, 0, none⟩) 1 1) 1 (encI n) rfl (src_one rfl rfl (by simp [Value.oneCell'])) (by rw [Hlen.out]; unfold maxLen; omega) (by rw [Hlen.out]; omega) (by have := hb2.size; simp; omega) ?_; intro v' w2 hown hg _)
        go_roundw
        case rel => exact ⟨rfl, rfl, k + 1, ns ++ [n], by omega, by go_num, HM.out, Own.snoc hown, Bapp (hb2.alloc hb2.size _) (ho1.alloc _) hg (Nat.le_refl _) (by have := hb2.size; simp; omega)⟩
        case measure => simp [intOf]; omega
    · obtain rfl : k = l.length := by omega
      have hN : numsOf l = some ns := by have := hm.out; rwa [List.take_length] at this
      have HN := Lib.hid hN; clear hN
      go_wp2_with fail
      go_ret2
      exact ⟨_, by rw [HN.out]; rfl, (fun ms h => by rw [HN.out] at h; cases h; exact ho), (fun h => by rw [HN.out] at h; cases h), hb⟩
end Go.Proofs.YtpfohfihkmjnaaaGreatDoor
namespace Go.Proofs.YtpfohfihkmjnaaaGreatDoor
open Go.RowKit
theorem itoa_len (n : Int) (h0 : -9223372036854775808 ≤ n) (h1 : n ≤ 9223372036854775807) : (Lib.itoa n).length ≤ 21 := Lib.itoa_length_le n h0 h1
end Go.Proofs.YtpfohfihkmjnaaaGreatDoor
namespace Go.Proofs.YtpfohfihkmjnaaaGreatDoor
/-- The digits of a text: behind a sign, if it has one. -/
def digOf (s : Str) : Str := if s.head? = some 45 then s.tail else s
def numRef (s : Str) : Option Int :=
  if (digOf s).length < 1 ∨ 11 < s.length then none
  else if (digOf s).head? = some 48 ∧ 1 < s.length then none
  else (Lib.decFrom 0 (digOf s)).map fun (u : Nat) => if (digOf s).length < s.length then -(u : Int) else (u : Int)
theorem digitVal_inv {c : UInt8} {v : Nat} (h : Lib.digitVal c = some v) : v < 10 ∧ c = UInt8.ofNat (48 + v) := by
  unfold Lib.digitVal at h
  split at h
  · rename_i hc
    obtain rfl := Option.some.inj h
    refine ⟨by omega, ?_⟩
    apply UInt8.toNat_inj.1
    rw [digit_val (by omega)]; omega
  · cases h
theorem dec_big {m v : Nat} (hm : 1 ≤ m) (hv : v < 10) : Lib.decDigits (m * 10 + v) = Lib.decDigits m ++ [UInt8.ofNat (48 + v)] := by
  rw [Lib.decDigits, dif_neg (by omega), show (m * 10 + v) / 10 = m by omega, show (m * 10 + v) % 10 = v by omega]
theorem decFrom_dig : ∀ (l : Str) (acc u : Nat), 1 ≤ acc → Lib.decFrom acc l = some u → Lib.decDigits u = Lib.decDigits acc ++ l
  | [], acc, u, _, h => by obtain rfl := Option.some.inj h; simp
  | c :: r, acc, u, ha, h => by
    unfold Lib.decFrom at h
    split at h
    · rename_i v hv
      obtain ⟨h10, hc⟩ := digitVal_inv hv
      rw [decFrom_dig r _ u (by omega) h, dec_big ha h10, hc]; simp
    · cases h
theorem decFrom_dig0 {d : Str} {u : Nat} (hne : d ≠ []) (h0 : d.head? ≠ some 48 ∨ d.length = 1) (h : Lib.decFrom 0 d = some u) : Lib.decDigits u = d := by
  cases d with
  | nil => exact absurd rfl hne
  | cons c r =>
    unfold Lib.decFrom at h
    split at h
    · rename_i v hv
      obtain ⟨h10, hc⟩ := digitVal_inv hv
      rw [Nat.zero_mul, Nat.zero_add] at h
      rcases Nat.eq_zero_or_pos v with rfl | hp
      · rcases h0 with h0 | h0
        · exact absurd (by rw [hc]; rfl) h0
        · have : r = [] := List.eq_nil_of_length_eq_zero (by simpa using h0)
          subst this
          obtain rfl := Option.some.inj h
          rw [Lib.decDigits_one (by omega), hc]
      · rw [decFrom_dig r v u hp h, Lib.decDigits_one h10, hc]; rfl
    · cases h
theorem dec_head {u : Nat} (hu : 1 ≤ u) : (Lib.decDigits u).head? ≠ some 48 := by
  induction u using Nat.strongRecOn with
  | _ u ih =>
    by_cases h : u < 10
    · rw [Lib.decDigits_one h]
      intro e
      have e1 : UInt8.ofNat (48 + u) = 48 := by simpa using e
      have := digit_val h
      rw [e1] at this
      have h2 : (48 : UInt8).toNat = 48 := rfl
      omega
    · have h1 := ih (u / 10) (by omega) (by omega)
      rw [Lib.decDigits, dif_neg h]
      cases hd : Lib.decDigits (u / 10) with
      | nil => exact absurd hd (dec_ne _)
      | cons c r => rw [hd] at h1; exact h1
theorem dec_head45 (u : Nat) : (Lib.decDigits u).head? ≠ some 45 := fun e => by
  have hm : (45 : UInt8) ∈ Lib.decDigits u := List.mem_of_head? e
  have := dec_digit u _ hm
  revert this; decide
theorem atoi_itoa (n : Int) : Lib.atoi (Lib.itoa n) = some n := by
  rcases Int.lt_or_le n 0 with h | h
  · obtain ⟨u, rfl⟩ : ∃ u : Nat, n = -(u : Int) := ⟨n.natAbs, by omega⟩
    rw [Lib.itoa_neg u (by omega)]
    simp [Lib.atoi, decNat_dec]
  · obtain ⟨u, rfl⟩ : ∃ u : Nat, n = u := ⟨n.toNat, by omega⟩
    rw [Lib.itoa_nonneg, atoi_dec]
theorem numOf_iff (s : Str) (n : Int) : numOf s = some n ↔ s.length ≤ 11 ∧ Lib.itoa n = s := by
  constructor
  · intro h
    unfold numOf at h
    split at h
    · split at h
      · rename_i hc; cases h; exact hc
      · cases h
    · cases h
  · rintro ⟨hl, rfl⟩
    unfold numOf
    rw [Lib.atoiAll_short _ (by omega), atoi_itoa]
    simp only [Lib.NumEnd.ofOption]
    rw [if_pos ⟨hl, trivial⟩]
theorem numRef_iff (s : Str) (n : Int) : numRef s = some n ↔ s.length ≤ 11 ∧ Lib.itoa n = s := by
  constructor
  · intro h
    unfold numRef at h
    split at h
    · cases h
    · rename_i h1
      split at h
      · cases h
      · rename_i h2
        cases hd : Lib.decFrom 0 (digOf s) with
        | none => rw [hd] at h; cases h
        | some u =>
          rw [hd] at h
          have h : (if (digOf s).length < s.length then -(u : Int) else u) = n := Option.some.inj h
          refine ⟨by omega, ?_⟩
          have hne : digOf s ≠ [] := fun e => h1 (.inl (by rw [e]; decide))
          by_cases h45 : s.head? = some 45
          · have hdo : digOf s = s.tail := if_pos h45
            have hs : s = 45 :: s.tail := by
              cases s with
              | nil => cases h45
              | cons c r => obtain rfl : c = 45 := by simpa using h45
                            rfl
            have hlen : s.length = s.tail.length + 1 := by rw [congrArg List.length hs]; simp
            rw [hdo] at h h1 h2 hd hne
            rw [if_pos (by omega)] at h
            have hdd := decFrom_dig0 hne (.inl fun e => h2 ⟨e, by omega⟩) hd
            have hu : 1 ≤ u := by
              rcases Nat.eq_zero_or_pos u with rfl | h'
              · rw [Lib.decDigits_one (by omega)] at hdd
                exact absurd ⟨by rw [← hdd]; rfl, by omega⟩ h2
              · exact h'
            rw [← h, Lib.itoa_neg u hu, hdd]; exact hs.symm
          · have hdo : digOf s = s := if_neg h45
            rw [hdo] at h h1 h2 hd hne
            rw [if_neg (by omega)] at h
            have hp : 0 < s.length := List.length_pos_iff.2 hne
            rw [← h, Lib.itoa_nonneg]
            refine decFrom_dig0 hne ?_ hd
            by_cases e : s.head? = some 48
            · exact .inr (by
                rcases Nat.lt_or_ge 1 s.length with h' | h'
                · exact absurd ⟨e, h'⟩ h2
                · omega)
            · exact .inl e
  · rintro ⟨hl, rfl⟩
    unfold numRef
    rcases Int.lt_or_le n 0 with h | h
    · obtain ⟨u, rfl⟩ : ∃ u : Nat, n = -(u : Int) := ⟨n.natAbs, by omega⟩
      have hu : 1 ≤ u := by omega
      rw [Lib.itoa_neg u hu] at hl ⊢
      have hdo : digOf (45 :: Lib.decDigits u) = Lib.decDigits u := if_pos rfl
      have hp : 0 < (Lib.decDigits u).length := List.length_pos_iff.2 (dec_ne u)
      have hl' : (Lib.decDigits u).length + 1 ≤ 11 := hl
      rw [hdo, if_neg (by rw [List.length_cons]; omega), if_neg (fun e => dec_head hu e.1), decFrom_dec]
      simp
    · obtain ⟨u, rfl⟩ : ∃ u : Nat, n = u := ⟨n.toNat, by omega⟩
      rw [Lib.itoa_nonneg] at hl ⊢
      have hdo : digOf (Lib.decDigits u) = Lib.decDigits u := if_neg (dec_head45 u)
      have hp : 0 < (Lib.decDigits u).length := List.length_pos_iff.2 (dec_ne u)
      rw [hdo, if_neg (by omega), if_neg ?_, decFrom_dec]
      · simp
      · rintro ⟨e, e2⟩
        rcases Nat.eq_zero_or_pos u with rfl | h'
        · rw [Lib.decDigits_one (by omega)] at e2; simp at e2
        · exact dec_head h' e
theorem numRef_eq (s : Str) : numRef s = numOf s := by
  cases h : numOf s with
  | none =>
    cases h2 : numRef s with
    | none => rfl
    | some n => rw [(numOf_iff s n).2 ((numRef_iff s n).1 h2)] at h; cases h
  | some n => exact (numRef_iff s n).2 ((numOf_iff s n).1 h)
/-- Digits so far: the bound. -/
theorem decFrom_lt : ∀ (l : Str) (acc u : Nat), Lib.decFrom acc l = some u → u < (acc + 1) * 10 ^ l.length
  | [], acc, u, h => by obtain rfl := Option.some.inj h; simp
  | c :: r, acc, u, h => by
    unfold Lib.decFrom at h
    split at h
    · rename_i v hv
      obtain ⟨h10, _⟩ := digitVal_inv hv
      have h1 := decFrom_lt r _ u h
      have h2 : (acc * 10 + v + 1) * 10 ^ r.length ≤ ((acc + 1) * 10) * 10 ^ r.length := Nat.mul_le_mul_right _ (by omega)
      rw [List.length_cons, Nat.pow_succ, Nat.mul_comm (10 ^ r.length) 10, ← Nat.mul_assoc]
      omega
    · cases h
end Go.Proofs.YtpfohfihkmjnaaaGreatDoor
namespace Go.Proofs.YtpfohfihkmjnaaaGreatDoor
open Go.RowKit
attribute [local go_sem] bapp
theorem bytes_conv (w : World) (t : TypeId) (n : Int) : (convert 264 9 (.slice (some ⟨w.heap.size, 0, none⟩) 1 1)).run Tryz.prog (w.alloc (.cells #[.int .u8 n] t)) = .ok (.string ⟨#[UInt8.ofNat n.toNat]⟩) (w.alloc (.cells #[.int .u8 n] t)) := by
  rw [run_convert_bytes_arg _ 264 5 Tryz.underlying264 Tryz.underlying5 w.heap.size 0 1 1 [n] rfl ?_ 9 Tryz.underlying9]
  · rfl
  · intro i hi
    obtain rfl : i = 0 := by omega
    simp
set_option maxRecDepth 100000 in
theorem byte_any (n : Int) (h0 : 0 ≤ n) (h1 : n ≤ 255) (w : World) :
    Calls Tryz.prog 157 #[.int .i64 n] w fun e w' => e = .returned (S [UInt8.ofNat n.toNat]) ∧ Below w.heap.size w w' := by
  have hcv := bytes_conv w 5 n
  have hw : IntKind.u8.wrap n = n := by
    show n % 256 = n
    omega
  go_enter Tryz.func157, Tryz.ntmps157
  go_wp2_with fail
  go_ret
  exact ⟨rfl, (Below.refl _ _).alloc (Nat.le_refl _) _⟩
theorem decDigits_big {u : Nat} (h : ¬ u < 10) : Lib.decDigits u = Lib.decDigits (u / 10) ++ [UInt8.ofNat (48 + u % 10)] := by
  rw [Lib.decDigits, dif_neg h]
theorem digits_len (u : Nat) (h : u ≤ 9223372036854775808) : (Lib.decDigits u).length ≤ 20 := by
  have := Lib.itoa_length_le (-(u : Int)) (by omega) (by omega)
  rcases Nat.eq_zero_or_pos u with rfl | hp
  · rw [Lib.decDigits_one (by omega)]; simp
  · rw [Lib.itoa_neg u hp] at this; simp at this; omega
theorem below_any (k : Nat) : ∀ (n : Int) (w : World), n.natAbs ≤ k → n ≤ 0 → -9223372036854775808 ≤ n →
    Calls Tryz.prog 118 #[.int .i64 n] w fun e w' => e = .returned (S (Lib.decDigits n.natAbs)) ∧ Below w.heap.size w w' := by
  induction k with
  | zero =>
    intro n w hk h0 hlo
    obtain rfl : n = 0 := by omega
    go_enter Tryz.func118, Tryz.ntmps118
    go_wp2_with fail
    refine (byte_any _ (by decide) (by decide) _).mono ?_
    rintro e w1 ⟨rfl, hb⟩
    go_wp2_with fail
    go_ret
    exact ⟨by simp [Lib.decDigits_one], hb⟩
  | succ k ih =>
    intro n w hk h0 hlo
    by_cases hn : -10 < n
    · have hd : Lib.decDigits n.natAbs = [UInt8.ofNat (48 - n).toNat] := by
        rw [Lib.decDigits_one (by omega)]
        congr 2; omega
      have Hd := Lib.hid hd; clear hd
      have Ih := Lib.hid ih; clear ih
      go_enter Tryz.func118, Tryz.ntmps118
      go_wp2_with fail
      refine (byte_any _ (by omega) (by omega) _).mono ?_
      rintro e w1 ⟨rfl, hb⟩
      go_wp2_with fail
      go_ret
      exact ⟨by rw [Hd.out]; rfl, hb⟩
    · have hq : (n.tdiv 10).natAbs = n.natAbs / 10 := by rw [Int.natAbs_tdiv]; rfl
      have hr : (n.tmod 10).natAbs = n.natAbs % 10 := by rw [Int.natAbs_tmod]; rfl
      have hq0 : n.tdiv 10 ≤ 0 := by
        have := Int.tdiv_nonneg (a := -n) (b := 10) (by omega) (by omega)
        rw [Int.neg_tdiv] at this; omega
      have hr0 : n.tmod 10 ≤ 0 := by
        have := Int.tmod_nonneg (a := -n) 10 (by omega)
        rw [Int.neg_tmod] at this; omega
      have hd : Lib.decDigits n.natAbs = Lib.decDigits (n.tdiv 10).natAbs ++ [UInt8.ofNat (48 - n.tmod 10).toNat] := by
        rw [decDigits_big (by omega), hq]
        congr 3; omega
      have hl := digits_len (n.tdiv 10).natAbs (by omega)
      have hrl : -9 ≤ n.tmod 10 := by omega
      have hql : -9223372036854775808 ≤ n.tdiv 10 := by omega
      have hqk : (n.tdiv 10).natAbs ≤ k := by omega
      have Hd := Lib.hid hd; clear hd hq hr
      have Ih := Lib.hid ih; clear ih
      go_enter Tryz.func118, Tryz.ntmps118
      go_wp2_with fail
      refine (Ih.out _ _ hqk hq0 hql).mono ?_
      rintro e w1 ⟨rfl, hb⟩
      generalize Lib.decDigits (n.tdiv 10).natAbs = q at hl Hd ⊢
      go_wp2_with fail
      refine (byte_any _ (by omega) (by omega) _).mono ?_
      rintro e w2 ⟨rfl, hb2⟩
      go_wp2_with fail
      go_ret
      exact ⟨by rw [Hd.out]; rfl, hb.trans (hb2.mono hb.size)⟩
theorem decimalE_any (n : Int) (w : World) (h0 : -9223372036854775808 ≤ n) (h1 : n ≤ 9223372036854775807) :
    Calls Tryz.prog 78 #[.int .i64 n] w fun e w' => e = .returned (S (Lib.itoa n)) ∧ Below w.heap.size w w' := by
  by_cases hn : n < 0
  · have hd : Lib.itoa n = 45 :: Lib.decDigits n.natAbs := if_pos hn
    have hl := digits_len n.natAbs (by omega)
    have Hd := Lib.hid hd; clear hd
    go_enter Tryz.func78, Tryz.ntmps78
    go_wp2_with fail
    refine (below_any _ n _ (Nat.le_refl _) (by omega) (by omega)).mono ?_
    rintro e w1 ⟨rfl, hb⟩
    go_wp2_with fail
    go_ret
    exact ⟨by rw [Hd.out]; rfl, hb⟩
  · have hd : Lib.itoa n = Lib.decDigits (-n).natAbs := by
      unfold Lib.itoa; rw [if_neg hn]; congr 1; omega
    have hn' : 0 ≤ n := by omega
    have Hd := Lib.hid hd; clear hd hn
    go_enter Tryz.func78, Tryz.ntmps78
    go_wp2_with fail
    refine (below_any _ (-n) _ (Nat.le_refl _) (by omega) (by omega)).mono ?_
    rintro e w1 ⟨rfl, hb⟩
    rw [← Hd.out]
    go_wp2_with fail
    go_ret
    exact ⟨rfl, hb⟩
theorem decimal_any (n : Int) (w : World) (h0 : -9223372036854775808 < n) (h1 : n ≤ 9223372036854775807) :
    Calls Tryz.prog 78 #[.int .i64 n] w fun e w' => e = .returned (S (Lib.itoa n)) ∧ Below w.heap.size w w' :=
  decimalE_any n w (Int.le_of_lt h0) h1
end Go.Proofs.YtpfohfihkmjnaaaGreatDoor
