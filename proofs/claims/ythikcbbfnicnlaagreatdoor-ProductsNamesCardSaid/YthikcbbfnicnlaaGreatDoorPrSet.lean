/- The law's program: hooks, the start. -/
import Derived.Test.YthikcbbfnicnlaaGreatDoorEvF
import Derived.Test.YthikcbbfnicnlaaGreatDoorPrM2
import Derived.Test.YthikcbbfnicnlaaGreatDoorPrWaits
import Derived.Test.YthikcbbfnicnlaaGreatDoorPrDel
import Derived.Test.YthikcbbfnicnlaaGreatDoorPrIns
import Derived.Test.YthikcbbfnicnlaaGreatDoorPrKey
namespace Go.Proofs.YthikcbbfnicnlaaGreatDoor.Ev
open Go
set_option linter.unusedVariables false
set_option linter.unusedSimpArgs false
set_option maxRecDepth 100000
noncomputable def u32s (n N : Nat) : List Value := Nat.rec (motive := fun _ => Nat → List Value) (fun _ => []) (fun _ g N => .int .u32 (Int.ofNat (Nat.mod N 4294967296)) :: g (Nat.div N 4294967296)) n N
noncomputable def H0 : AH := startH 3 []
noncomputable def baseH (f : FuncId) : Hook := fun args H => bi (Nat.beq f 225) (hWaits 3 args H) (bi (Nat.beq f 222) (hDelete 282 args H) (bi (Nat.beq f 234) (hMore args H) (bi (Nat.beq f 244) (hInsert Proofs.Tryz.prog 232 args H) (bi (Nat.beq f 229) (hKey args H) none))))
noncomputable def base0 (w : World) : En := ⟨Proofs.Tryz.prog, 3, fun f => some (baseH f), fun _ => none, w, w.heap.size⟩
noncomputable def kT : List Value := u32s 256 191781931866985559621651535760735696673856346713887891597305215034209910220001862487342664719235424489376241530245261416506414575980417952467156150107317449804134056257716516419112328720131160031456481696823125446157373092479201248890302123815375087579814780306302465238014574686590130429322061672822152808302584144548153239526865349163683956765968513272069020595772598256391810863039343892818777390988989484387641140032565380688427043259765038805963005205961532183550801462253286244137065761003679520439085992511812747153023950988237051482297475963397445683294857871623710491443494995887883262049609400235784616301914504614852100915093667425320505522569448617573499542922012206538552994923376999879042244179649278486539688567765080810044274289792776818305348943521622626710878290771699129542630700634428853941830696095884539637866540751870989118613898226745049792152623499445281592614081205541985653143393913751853573884386717370504757525450126884015918318526676861728753890367452704650663987939986219768247293259525516712103938189788961727671665583423846301460611946049409459047739687307696235742781609353855728368690241567495209394945831800246045226053014789794812648147087782064443448838513940732911263420963033260564074243893655912557635729647410566500980880275296686932139551470048159522442188851388406016990108609539131275206406529452392139356697170450224378375281123940131103967815428442222478921241843802992958207175757710557124203243943652857525217714700783116853765558053940146905689184430570662124197438683992896538427266983469967391681636142474704834532560212491641513769109191453119295486434232583946536159882324212284713050838488706228253289835044432504923553683244983660554148621837806481305441008673570324340892415493266799132762194172577680912505944139402575723473831901219655706623634449032441308172682686423497289006274475542693850888413509354855109888442809400614039731828034881315553093408757249612302925815547436960120920974901163960048042280802561087650605423221541518940157925281902321885507580234243366499257305095335897959299004866716736669236430206354864789374467091307116826402984124475471120986056028650311289461216452641219222976814212486281160700097480526596597474635034066400713689500662174516288603424994162219769371242282901951357062625582355266271642761008964271320703341335927815387129432557369825457457303399345465981718607329281771814792602549895867734643022520164827992332349645685502120161683551602918412611264947206183976960
noncomputable def kRow (i : Nat) : Blk := .cells 377 256 0 false (reps 256 (.int .u32 0)) (seg 0 (takeL i kT) .nil)
noncomputable def kMem (i : Nat) : Mem2 := ⟨275, Nat.add 4 (Nat.mul 4 i), [.pointer (some ⟨3, 0, none⟩), .int .i64 (Int.ofNat i)], [], [(3, kRow i)], .tuple ⟨[]⟩, Nat.add 8 (Nat.mul 4 i), [(3, kRow (Nat.succ i))]⟩
noncomputable def kChunk (n : Nat) : Nat → List Mem2 := Nat.rec (motive := fun _ => Nat → List Mem2) (fun _ => []) (fun _ g a => kMem a :: g (Nat.succ a)) n
noncomputable def eKn (w : World) : En := ((((base0 w).mems (kChunk 64 0)).mems (kChunk 64 64)).mems (kChunk 64 128)).mems (kChunk 64 192)
noncomputable def fKnown : Fresh := ⟨260, [], 3, ⟨377, 256, 0, false, reps 256 (.int .u32 0), Tr.ofList kT⟩⟩
noncomputable def base1 (w : World) : En := (base0 w).news [fKnown]
noncomputable def pDec : Pm := ⟨52, 3, 5, reps 128 (.int .u8 0), .tuple ⟨[.int .u64 0, .int .u64 0, .slice none 0 0, .int .i64 80]⟩⟩
noncomputable def pDecR : Pm := ⟨55, 3, 5, reps 128 (.int .u8 0), .tuple ⟨[.int .u64 0, .int .u64 0, .slice none 0 0, .int .i64 80]⟩⟩
noncomputable def baseEn (w : World) : En := (base1 w).pms [pDec, pDecR]
/-- What is known of the world. -/
structure Wd (w : World) : Prop where
  size : 3 ≤ w.heap.size
theorem ng_all : (Proofs.Tryz.prog.funcs.toList.all fun fd => !(fd.name == "runtime.NumGoroutine")) = true := by kernel_rfl
theorem ng (f : FuncId) (fd : Func) (h : Proofs.Tryz.prog.funcs[f]? = some fd) : (fd.name == "runtime.NumGoroutine") = false := by
  have := List.all_eq_true.1 ng_all fd (by rw [← Array.getElem?_toList] at h; exact List.mem_of_getElem? h)
  simpa using this
theorem insLaw : InsLaw Proofs.Tryz.prog 244 229 232 Proofs.Tryz.t232 (.agg #[.int .i64 0, .int .i64 0]) where
  und := Proofs.Tryz.underlying229
  info := by kernel_rfl
  zero := by kernel_rfl
  zsz := by kernel_rfl
  pos := by decide +kernel
  bytes := by decide +kernel
  shift := fun b off n c k vb voff vc w W1 W2 k1 k2 h1 h2 h3 h4 tA tB kA kB h5 h6 h7 h8 h9 hc1 hc2 => Proofs.Tryz.insert_shift b off n c k vb voff vc w W1 W2 k1 k2 h1 h2 h3 h4 tA tB kA kB h5 h6 h7 h8 h9 hc1 hc2
  grow := fun b off n c k vb voff vc nb G w W1 W2 W3 k1 k2 h1 h2 h3 h4 h5 hr hc1 hc2 => Proofs.Tryz.insert_grow b off n c k vb voff vc nb G w W1 W2 W3 k1 k2 h1 h2 h3 h4 h5 hr hc1 hc2
  int := Proofs.Tryz.underlying3
theorem delLaw : DelLaw Proofs.Tryz.prog 222 224 282 Proofs.Tryz.t282 (.pointer none) where
  und := Proofs.Tryz.underlying224
  info := by kernel_rfl
  zero := by kernel_rfl
  zsz := by kernel_rfl
  z1 := by kernel_rfl
  size := by kernel_rfl
  del := fun b off n c k j w W1 W2 h1 h2 h3 h4 hap hcl => Proofs.Tryz.delete_w b off n c k j w W1 W2 h1 h2 h3 h4 hap hcl
theorem base0_ok (w : World) : EnOk (base0 w) where
  mix := by kernel_rfl
  hx := ⟨ng, fun f h fd hf => nomatch (show (none : Option Hook) = some h from hf)⟩
  hxn := fun f h hf => nomatch (show (none : Option Hook) = some h from hf)
  he := fun f h hf N ι H w1 args args' v H' hN hwx hargs hr => by
    cases (show some (baseH f) = some h from hf)
    rcases bi_or.1 (show bi (Nat.beq f 225) (hWaits 3 args H) (bi (Nat.beq f 222) (hDelete 282 args H) (bi (Nat.beq f 234) (hMore args H) (bi (Nat.beq f 244) (hInsert Proofs.Tryz.prog 232 args H) (bi (Nat.beq f 229) (hKey args H) none)))) = some (v, H') from hr) with ⟨h1, h⟩ | ⟨-, h⟩
    · have h1 := beq_iff.1 h1
      subst h1
      exact hWaits_ok (E := base0 w) (P := Proofs.Tryz.prog) (i := Proofs.Tryz.t3) rfl (by kernel_rfl) (by kernel_rfl) (fun g o mb n cap clk sa es ks w hA => Proofs.Tryz.waits_h g o mb n cap clk sa es ks w hA) hN hwx hargs h
    rcases bi_or.1 h with ⟨h1, h⟩ | ⟨-, h⟩
    · have h1 := beq_iff.1 h1
      subst h1
      exact hDelete_ok (E := base0 w) delLaw hN hwx hargs h
    rcases bi_or.1 h with ⟨h1, h⟩ | ⟨-, h⟩
    · have h1 := beq_iff.1 h1
      subst h1
      exact hMore_ok (E := base0 w) (fun n v' bs w h1 h2 => Proofs.Tryz.more_w n v' bs w h1 h2) hwx hargs h
    rcases bi_or.1 h with ⟨h1, h⟩ | ⟨-, h⟩
    · have h1 := beq_iff.1 h1
      subst h1
      exact hInsert_ok (E := base0 w) insLaw hN hwx hargs h
    · obtain ⟨h1, h⟩ := bi_none.1 h
      have h1 := beq_iff.1 h1
      subst h1
      exact hKey_ok (E := base0 w) (fun b o c p x y u v w h0 h1 h2 h3 => Proofs.Tryz.at1_w b o c p x y u v w h0 h1 h2 h3) hwx hargs h
  hen := fun f h hf args H v H' hr => by
    cases (show some (baseH f) = some h from hf)
    rcases bi_or.1 (show bi (Nat.beq f 225) (hWaits 3 args H) (bi (Nat.beq f 222) (hDelete 282 args H) (bi (Nat.beq f 234) (hMore args H) (bi (Nat.beq f 244) (hInsert Proofs.Tryz.prog 232 args H) (bi (Nat.beq f 229) (hKey args H) none)))) = some (v, H') from hr) with ⟨h1, h⟩ | ⟨-, h⟩
    · exact hWaits_nn h
    rcases bi_or.1 h with ⟨h1, h⟩ | ⟨-, h⟩
    · exact hDelete_nn h
    rcases bi_or.1 h with ⟨h1, h⟩ | ⟨-, h⟩
    · exact hMore_nn h
    rcases bi_or.1 h with ⟨h1, h⟩ | ⟨-, h⟩
    · exact hInsert_nn h
    · exact hKey_nn (bi_none.1 h).2
theorem start0 {w : World} (hw : Wd w) : StartOk (base0 w) (ren0 Proofs.Tryz.prog 3 w.heap.size w) H0 :=
  start_ok (E := base0 w) (tabs := []) hw.size (Nat.le_refl _) (fun p hp => nomatch hp) (fun p hp => nomatch hp) (fun p hp => nomatch hp)
end Go.Proofs.YthikcbbfnicnlaaGreatDoor.Ev
