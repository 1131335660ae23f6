/-
  The example of the layer, half way, written out.
-/
import Derived.Test.YtmpckglmfklfiaaGreatDoorKcFresh
import Derived.Test.YtmpckglmfklfiaaGreatDoorEvPart3
set_option linter.unusedVariables false
namespace Go.Proofs.YtmpckglmfklfiaaGreatDoor
open Go Go.Ev
noncomputable section
def rw35 : List Value := [(ptr 7706 0),(ptr 7778 0),(sl 7805 1),(.slice none 0 0),(num 5),(sl 8579 1),(.slice none 0 0),(.map (some 7757)),(.map (some 7758))]
def rw36 : List Value := [(sl 7785 1),(num 10),(num 400),(.map (some 7775)),(.map (some 7776)),(num 1)]
def rw37 : List Value := [(num 1),(num 1),(num 2),(num 1),(num 0),(ptr 8391 0),(sl 8397 44),(num 1),(num 0),(.slice none 0 0),F,(.slice none 0 0),(num 0),(num 2),(num 0)]
def rw38 : List Value := [(ptr 7789 0),(.slice none 0 0),T,(num 0),(num 0),(Ev.strOf []),(.slice none 0 0),(.slice none 0 0),F]
def rw39 : List Value := [(Ev.strOf [109,107,100,105,114]),(num 2),(num 0),(Ev.strOf [65]),(Ev.strOf []),(num 0),(num 0),(num 0),F,F,F,F,(num 0),(num 0),(num 0),(num 0),(num 0),F,(.slice none 0 0)]
def rw40 : List Value := [(sl 7865 4),(sl 7905 4),(q 7920 4 4)]
def rw41 : List Value := (bs [5,109,107,100,105,114,128,0,0,2,128,0,0,0,128,0,0,0,128,0,0,0,128,0,0,0])
def rw42 : List Value := [(sl 8139 26),(sl 8166 2),(q 8170 1 1),(q 8150 1 1),(sl 7925 12),(sl 8207 2)]
def rw43 : List Value := (bs [5,109,107,100,105,114,128,0,0,2,128,0,0,0,128,0,0,0,128,0,0,0,128,0,0,0,1,65,0,0,0,0,0,0,0,0,0,0,0,0,0,0,0,0])
def rw44 : List Value := [(num 0),(num 1),(num 0),(num 1),(num 1),(.slice none 0 0),(num 0)]
def rw45 : List Value := [(num 1),(num 0),F,(num 44),(.slice none 0 0),(.slice none 0 0),(.pointer none),(.slice none 0 0),(num 0),(num 0),(num 3),(num 1)]
def rw46 : List Value := [(num 1),(num 2),(num 1),(num 0),(num 1),(.slice none 0 0),(num 1)]
def rw47 : List Value := [(num 0),(num 7),(num 1),(num 0),(num 44),(.slice none 0 0),(num 2)]
def rw48 : List Value := [(num 1),(num 8),(num 1),(num 0),(num 44),(.slice none 0 0),(num 3)]
def rw49 : List Value := [(num 9),(num 1),(num 0),(num 0),(sl 8557 44)]
def rw50 : List Value := [(num 0),(num 9),(num 1),(num 0),(num 0),(sl 8557 44),(num 4)]
def half_new : List (Nat × Ob) := [
 (7757,o440),
 (7758,.map [((num 1),(num 1))] 1),
 (7760,.cells rw35 0 .ex),
 (7763,o473),
 (7775,.map [((num 1),(ptr 8294 0))] 1),
 (7776,o440),
 (7778,.cells rw36 0 .ex),
 (7781,o354),
 (7785,.cells [(num 1)] 262145 .gr),
 (7789,.cells rw37 0 .ex),
 (7799,.cells rw38 0 .ex),
 (7800,.cells [(ptr 7799 0)] 0 .ex),
 (7805,.cells [(ptr 7799 0)] 7340033 .gr),
 (7806,.cells rw39 0 .ex),
 (7808,.cells rw39 0 .ex),
 (7821,.cells [(num 2),(num 0),(num 0),(num 0),(num 0)] 0 .ex),
 (7823,.cells [(num 0),(num 0),(num 0),(num 0),(num 0),F] 0 .ex),
 (7832,o361),
 (7835,o3),
 (7842,o361),
 (7845,o3),
 (7852,o361),
 (7855,o3),
 (7862,o361),
 (7865,.cells (bs [0,0,0,0]) 393217 .gr),
 (7872,o361),
 (7875,o3),
 (7882,o361),
 (7885,o3),
 (7892,o361),
 (7895,o3),
 (7902,o361),
 (7905,.cells (bs [0,0,0,0]) 393217 .gr),
 (7906,.cells [(num 0),(num 0),(num 0),(num 0),(num 0),F] 0 .ex),
 (7920,.cells (bs [0,0,0,0]) 0 .ex),
 (7921,.cells rw40 0 .ex),
 (7925,.cells (bs [0,0,0,0,0,0,0,0,0,0,0,0]) 393217 .gr),
 (7929,o640),
 (7934,o3),
 (7941,.cells (bs [128]) 0 .ex),
 (7944,o3),
 (7951,o361),
 (7954,o3),
 (7961,o361),
 (7964,o3),
 (7971,o454),
 (7974,.cells (bs [128,0,0,2]) 393217 .gr),
 (7975,o3),
 (7982,.cells (bs [128]) 0 .ex),
 (7985,o3),
 (7992,o361),
 (7995,o3),
 (8002,o361),
 (8005,o3),
 (8012,o361),
 (8015,.cells (bs [128,0,0,0]) 393217 .gr),
 (8016,o3),
 (8023,.cells (bs [128]) 0 .ex),
 (8026,o3),
 (8033,o361),
 (8036,o3),
 (8043,o361),
 (8046,o3),
 (8053,o361),
 (8056,.cells (bs [128,0,0,0]) 393217 .gr),
 (8057,o3),
 (8064,.cells (bs [128]) 0 .ex),
 (8067,o3),
 (8074,o361),
 (8077,o3),
 (8084,o361),
 (8087,o3),
 (8094,o361),
 (8097,.cells (bs [128,0,0,0]) 393217 .gr),
 (8098,o3),
 (8105,.cells (bs [128]) 0 .ex),
 (8108,o3),
 (8115,o361),
 (8118,o3),
 (8125,o361),
 (8128,o3),
 (8135,o361),
 (8138,.cells (bs [128,0,0,0]) 393217 .gr),
 (8139,.cells rw41 393217 .gr),
 (8150,o361),
 (8155,.cells rw42 0 .ex),
 (8161,o457),
 (8166,.cells (bs [1,65]) 393217 .gr),
 (8170,o361),
 (8175,.cells [F,F,F,F] 0 .ex),
 (8185,.cells [F,F,F,F] 0 .ex),
 (8194,o361),
 (8197,o3),
 (8204,o361),
 (8207,o362),
 (8208,.cells rw43 393217 .gr),
 (8209,.cells [(ptr 7760 0)] 0 .ex),
 (8219,.cells [(num 1),(num 0),(num 1),(num 1),(.slice none 0 0)] 7667712 .ex),
 (8222,.cells [(num 1),(num 0),(num 1),(num 1),(.slice none 0 0)] 7667712 .ex),
 (8224,.cells [(num 1),(num 0),(num 1),(num 1),(.slice none 0 0)] 7667712 .ex),
 (8227,.cells [(num 1),(num 0),(num 1),(num 1),(.slice none 0 0)] 0 .ex),
 (8231,.cells [(num 1),(num 0),(num 1),(num 1),(.slice none 0 0)] 7667712 .ex),
 (8245,.cells rw44 0 .ex),
 (8250,o3),
 (8251,o3),
 (8252,.cells [(ptr 7760 0)] 0 .ex),
 (8254,.cells rw44 0 .ex),
 (8256,o3),
 (8263,.cells rw44 7798784 .ex),
 (8265,.cells rw44 0 .ex),
 (8266,.cells [(num 1),(num 0),(num 1),(num 1),(.slice none 0 0)] 0 .ex),
 (8269,.cells [(num 1),(num 0),(num 1),(num 1),(.slice none 0 0)] 0 .ex),
 (8274,.cells [(num 2),(num 1),(num 0),(num 1),(.slice none 0 0)] 0 .ex),
 (8277,.cells [(num 1),(num 0),(num 1),(num 1),(.slice none 0 0)] 0 .ex),
 (8278,.cells [(num 2),(num 1),(num 0),(num 1),(.slice none 0 0)] 7667712 .ex),
 (8282,.cells [(num 2),(num 1),(num 0),(num 1),(.slice none 0 0)] 7667712 .ex),
 (8284,o3),
 (8294,.cells rw45 0 .ex),
 (8298,.cells [(num 2),(num 1),(num 0),(num 1),(.slice none 0 0)] 7667712 .ex),
 (8303,.cells [(num 2),(num 1),(num 0),(num 1),(.slice none 0 0)] 0 .ex),
 (8307,.cells [(num 2),(num 1),(num 0),(num 1),(.slice none 0 0)] 7667712 .ex),
 (8321,.cells rw46 0 .ex),
 (8326,o3),
 (8327,o3),
 (8330,o473),
 (8333,.cells [(num 1)] 262145 .gr),
 (8334,.cells [(ptr 7760 0)] 0 .ex),
 (8336,.cells rw46 0 .ex),
 (8338,o3),
 (8341,o473),
 (8344,.cells [(num 1)] 262145 .gr),
 (8351,.cells rw46 7798784 .ex),
 (8353,.cells rw46 0 .ex),
 (8354,.cells [(num 2),(num 1),(num 0),(num 1),(.slice none 0 0)] 0 .ex),
 (8357,.cells [(num 2),(num 1),(num 0),(num 1),(.slice none 0 0)] 0 .ex),
 (8359,.cells [(num 2),(num 1),(num 0),(num 1),(.slice none 0 0)] 0 .ex),
 (8372,.cells [(num 7),(num 1),(num 0),(num 44),(.slice none 0 0)] 7667712 .ex),
 (8375,.cells [(num 7),(num 1),(num 0),(num 44),(.slice none 0 0)] 7667712 .ex),
 (8377,.cells [(num 7),(num 1),(num 0),(num 44),(.slice none 0 0)] 7667712 .ex),
 (8391,.cells [(num 7),(num 1),(num 0),(num 44),(.slice none 0 0)] 7667712 .ex),
 (8393,o354),
 (8397,.cells rw43 393217 .gr),
 (8398,.cells [(num 7),(num 1),(num 0),(num 44),(.slice none 0 0)] 0 .ex),
 (8399,.cells [(num 7),(num 1),(num 0),(num 44),(.slice none 0 0)] 7667712 .ex),
 (8402,.cells [(num 7),(num 1),(num 0),(num 44),(.slice none 0 0)] 0 .ex),
 (8406,.cells [(num 7),(num 1),(num 0),(num 44),(.slice none 0 0)] 7667712 .ex),
 (8420,.cells rw47 0 .ex),
 (8425,o3),
 (8426,.cells [(ptr 7760 0)] 0 .ex),
 (8428,.cells rw47 0 .ex),
 (8430,o3),
 (8433,o473),
 (8436,.cells [(num 1)] 262145 .gr),
 (8443,.cells rw47 7798784 .ex),
 (8445,.cells rw47 0 .ex),
 (8446,.cells [(num 7),(num 1),(num 0),(num 44),(.slice none 0 0)] 0 .ex),
 (8449,.cells [(num 7),(num 1),(num 0),(num 44),(.slice none 0 0)] 0 .ex),
 (8451,.cells [(num 7),(num 1),(num 0),(num 44),(.slice none 0 0)] 0 .ex),
 (8462,.cells [(num 8),(num 1),(num 0),(num 44),(.slice none 0 0)] 0 .ex),
 (8466,.cells [(num 8),(num 1),(num 0),(num 44),(.slice none 0 0)] 7667712 .ex),
 (8471,.cells [(num 8),(num 1),(num 0),(num 44),(.slice none 0 0)] 0 .ex),
 (8475,.cells [(num 8),(num 1),(num 0),(num 44),(.slice none 0 0)] 7667712 .ex),
 (8489,.cells rw48 0 .ex),
 (8494,o3),
 (8495,o3),
 (8498,o473),
 (8501,.cells [(num 1)] 262145 .gr),
 (8502,.cells [(ptr 7760 0)] 0 .ex),
 (8504,.cells rw48 0 .ex),
 (8506,o3),
 (8509,o473),
 (8512,.cells [(num 1)] 262145 .gr),
 (8519,.cells rw48 7798784 .ex),
 (8521,.cells rw48 0 .ex),
 (8522,.cells [(num 8),(num 1),(num 0),(num 44),(.slice none 0 0)] 0 .ex),
 (8525,.cells [(num 8),(num 1),(num 0),(num 44),(.slice none 0 0)] 0 .ex),
 (8550,.cells rw49 0 .ex),
 (8553,o354),
 (8557,.cells rw43 393217 .gr),
 (8560,.cells rw49 7667712 .ex),
 (8574,.cells rw50 0 .ex),
 (8579,.cells rw50 7798791 .gr)]
def half_st : St := ⟨setAll fresh_st.heap half_new, 8580⟩
def half_fr : Fr :=
 (.n (some ((.bool false))) (.n (some ((ptr 7706 0))) (tl ((.tuple ⟨[(ptr 7706 0), (ptr 7750 0)]⟩))) (tl ((ptr 7706 0))) (tl ((.agg ⟨[(Ev.strOf [109, 107, 100, 105, 114]), (num 2), (num 0), (Ev.strOf [65]), (Ev.strOf []), (num 0), (num 0), (num 0), (.bool false), (.bool false), (.bool false), (.bool false), (num 0), (num 0), (num 0), (num 0), (num 0), (.bool false), (.slice none 0 0)]⟩))) (tl ((ptr 7760 0))) .e .e .e .e)
 (.n (some ((ptr 7750 0))) (tl ((ptr 7706 0))) (tl ((.bool false))) (tl ((num 0))) (tl ((num 0))) .e .e .e .e)
 (.n (some ((ptr 7760 0))) (tl ((ptr 7750 0))) (tl ((.bool false))) (tl ((.bool false))) .e .e .e .e .e)
 (.n (some ((num 0))) (tl ((.tuple ⟨[(ptr 7760 0), (num 0)]⟩))) (tl ((num 0))) (tl ((.bool false))) .e .e .e .e .e)
 (.n (some ((num 5))) (tl ((ptr 7706 0))) (tl ((.bool false))) (tl ((num 4))) .e .e .e .e .e)
 (.n none (tl ((.tuple ⟨[(ptr 7760 0), (num 0)]⟩))) (tl ((.bool false))) (tl ((.bool true))) .e .e .e .e .e)
 (.n none (tl ((ptr 7760 0))) (tl ((.bool false))) (tl ((num 4))) .e .e .e .e .e)
 (.n (some ((.tuple ⟨[(ptr 7706 0), (ptr 7750 0)]⟩))) (tl ((num 0))) (tl ((ptr 7760 0))) (tl ((num 5))) .e .e .e .e .e)
)
def primsC : List (FuncId × Prim) := (21, pAt 4 [] fresh_v fresh_st) :: primsA
def awakeBody : CCode := Option.rec .no (fun c => c.body) (rFunc Tryz.prog 9)
def awakeR : CCode := (sndN 4 awakeBody).fst.fst
def awakeL : CCode := (sndN 4 awakeBody).fst.snd.inner.inner
def awakeT : CCode := (sndN 4 awakeBody).snd
theorem half_run : (ob (headC (envOf Tryz.prog primsC) 20000 4 awakeBody .e (bare 4)) fun x => ob (headC (envOf Tryz.prog primsC) 20000 1 (.seq awakeR (.block 0 (.loop awakeL))) x.1 x.2) fun y => iterC (envOf Tryz.prog primsC) 20000 awakeL 5 y.1 y.2) = some (half_fr, half_st) := by kernel_rfl
theorem awake_shape : sndN 4 awakeBody = .seq (.seq awakeR (.block 0 (.loop awakeL))) awakeT := by kernel_rfl
theorem awake_code : (envOf Tryz.prog primsC).code 9 = some ⟨51, awakeBody, [.tmp 0]⟩ := by kernel_rfl
theorem awake_prim : (envOf Tryz.prog primsC).prim 9 = none := by kernel_rfl
end
end Go.Proofs.YtmpckglmfklfiaaGreatDoor
